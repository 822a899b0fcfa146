/- AY, part M: rules of the walk. -/
import Derived.Test.YtjmknbbipadjbaaAyL
set_option linter.unusedSimpArgs false
set_option linter.unusedVariables false
namespace Go.AX
open Go

section
variable {P : Program} {K n : Nat} {R : PEnd} {k : List It} {E : PE0} {B : List PB} {l : List ROper} {z : Zn} {d : Option Nat} {b : Bool} {o : ROp} {p : Prop} [Decidable p]
theorem ZG_d (h1 : p → decide p = true → ZG P K R z (.bo (decide p)) b d o l k E B) (h2 : ¬ p → decide p = false → ZG P K R z (.bo (decide p)) b d o l k E B) : ZG P K R z (.bo (decide p)) b d o l k E B := by
  by_cases h : p
  · exact h1 h (decide_eq_true h)
  · exact h2 h (decide_eq_false h)
theorem ZB_d {x y : RC} (h1 : p → decide p = true → ZB z (.bo (decide p)) x y k E B) (h2 : ¬ p → decide p = false → ZB z (.bo (decide p)) x y k E B) : ZB z (.bo (decide p)) x y k E B := by
  by_cases h : p
  · exact h1 h (decide_eq_true h)
  · exact h2 h (decide_eq_false h)
theorem ZRG_d {l' : RL} {q : Nat} {x : ROper × List Nat × Bool} {rem : RL} {z : Zr} (h1 : p → decide p = true → ZRG P K R l' k q x rem E B z (.bo (decide p)) b o) (h2 : ¬ p → decide p = false → ZRG P K R l' k q x rem E B z (.bo (decide p)) b o) : ZRG P K R l' k q x rem E B z (.bo (decide p)) b o := by
  by_cases h : p
  · exact h1 h (decide_eq_true h)
  · exact h2 h (decide_eq_false h)
variable {c : Bool}
theorem ZG_b' (h1 : c = true → ZG P K R z (.bo c) b d o l k E B) (h2 : c = false → ZG P K R z (.bo c) b d o l k E B) : ZG P K R z (.bo c) b d o l k E B := by cases c; exact h2 rfl; exact h1 rfl
theorem ZB_b' {x y : RC} (h1 : c = true → ZB z (.bo c) x y k E B) (h2 : c = false → ZB z (.bo c) x y k E B) : ZB z (.bo c) x y k E B := by cases c; exact h2 rfl; exact h1 rfl
theorem ZRG_b' {l' : RL} {q : Nat} {x : ROper × List Nat × Bool} {rem : RL} {z : Zr} (h1 : c = true → ZRG P K R l' k q x rem E B z (.bo c) b o) (h2 : c = false → ZRG P K R l' k q x rem E B z (.bo c) b o) : ZRG P K R l' k q x rem E B z (.bo c) b o := by cases c; exact h2 rfl; exact h1 rfl

/-! ### Calls -/
theorem Y_lend (dp : Nat) {f : FuncId} {args : List Opd} {as' : List PV} {v : PV} (ha : PV.resL B dp (args.map (pev E)) = some as') (hc : Pu P f as' [] v) (hf : v.flat = true) (hy : Y P K R (.o l :: k) (E.put d v) B) :
    Y P K R (.o (⟨d, none, .call f args⟩ :: l) :: k) E B := Y_call (call_lend ha hc hf) hy
theorem Y_pure (dp : Nat) {f : FuncId} {args : List Opd} {as' : List PV} {B1 : List PB} {v : PV} (ha : PV.resL (offB B) dp (args.map (pev E)) = some as') (hc : Pu P f as' B1 v) (hy : Y P K R (.o l :: k) (E.put d (v.ren (· + B.length))) (B ++ B1.map (PB.ren (· + B.length)))) :
    Y P K R (.o (⟨d, none, .call f args⟩ :: l) :: k) E B := Y_call (call_pure ha hc) hy
theorem Y_lendv (dp : Nat) {x : Opd} {f : FuncId} {pa ca : List PV} {args : List Opd} {as' : List PV} {v : PV} (hx : pev E x = .fn (.func f) pa ca) (hb : Bd P f) (ha : PV.resL B dp (pa ++ args.map (pev E) ++ ca) = some as') (hc : Pu P f as' [] v) (hf : v.flat = true) (hy : Y P K R (.o l :: k) (E.put d v) B) :
    Y P K R (.o (⟨d, none, .calv x args⟩ :: l) :: k) E B := Y_calv hx hb (call_lend ha hc hf) hy
section
variable {l' : RL} {q : Nat} {g : Option (Nat × Bool)} {rk : List Nat} {ck : Bool} {rem : RL}
theorem YR_lend (dp : Nat) {f : FuncId} {args : List Opd} {as' : List PV} {v : PV} (hg : gval E g = some true) (ha : PV.resL B dp (args.map (pev E)) = some as') (hc : Pu P f as' [] v) (hf : v.flat = true) (hy : YR P K R l' (q + 1) rem k (E.put d v) B) :
    YR P K R l' q ((⟨d, g, .call f args⟩, rk, ck) :: rem) k E B := YR_call hg (call_lend ha hc hf) (.inr rfl) hy
theorem YR_pure (dp : Nat) {f : FuncId} {args : List Opd} {as' : List PV} {B1 : List PB} {v : PV} (hg : gval E g = some true) (ha : PV.resL (offB B) dp (args.map (pev E)) = some as') (hc : Pu P f as' B1 v) (hy : YR P K R l' (q + 1) rem k (E.put d (v.ren (· + B.length))) (B ++ B1.map (PB.ren (· + B.length)))) :
    YR P K R l' q ((⟨d, g, .call f args⟩, rk, ck) :: rem) k E B := YR_call hg (call_pure ha hc) (.inr rfl) hy
theorem YR_lendv (dp : Nat) {x : Opd} {f : FuncId} {pa ca : List PV} {args : List Opd} {as' : List PV} {v : PV} (hg : gval E g = some true) (hx : pev E x = .fn (.func f) pa ca) (hb : Bd P f) (ha : PV.resL B dp (pa ++ args.map (pev E) ++ ca) = some as') (hc : Pu P f as' [] v) (hf : v.flat = true)
    (hy : YR P K R l' (q + 1) rem k (E.put d v) B) : YR P K R l' q ((⟨d, g, .calv x args⟩, rk, ck) :: rem) k E B := YR_calv hg hx hb (call_lend ha hc hf) (.inr rfl) hy
end

/-! ### What is one's own stays from here on -/
theorem Wk_frz (b : Nat) {es : Nat} {l : List PV} (hb : B[b]? = some (.gs true es l)) (hK : K ≤ b) : Wk K E B E (B.set b (.fz es l)) := by
  intro L H Ea hKL hR hE
  have hn := hR.n
  have hbl : b < B.length := (List.getElem?_eq_some_iff.1 hb).1
  let F' : Nat → Prop := fun X => L.F X ∨ ((L.m b).bk = some X ∧ Ow L B X)
  let L' : Lk := ⟨L.n, L.m, F'⟩
  have k : Keep L H L' H := ⟨⟨Nat.le_refl _, fun _ h => .inl h, fun _ _ => rfl⟩, Nat.le_refl _, fun _ _ => rfl⟩
  have s : Stay L.F H F' H := k.st
  have get : ∀ c q, (B.set b (.fz es l))[c]? = some q → (c = b ∧ q = .fz es l) ∨ (c ≠ b ∧ B[c]? = some q) := by
    intro c q hq
    rw [List.getElem?_set] at hq
    split at hq
    · rename_i he
      try rw [if_pos (by omega)] at hq
      simp only [Option.some.injEq] at hq
      exact .inl ⟨he.symm, hq.symm⟩
    · rename_i he; exact .inr ⟨fun e => he e.symm, hq⟩
  refine ⟨L', hKL, ⟨by rw [List.length_set]; exact hn, fun X hX => ?_, hR.wf, fun c q hq => ?_, fun c c' q q' X hq hq' ho ho' hX hX' hF => ?_⟩, hE.mono k, fun _ _ => rfl, fun X h => .inl h, fun X h => h.imp id (·.2), fun X ⟨c, q, h1, h2, h3, h4⟩ => ?_⟩
  · rcases hX with hX | hX
    · exact hR.fl X hX
    · exact Ow_lt hR hX.2
  · rcases get c q hq with ⟨rfl, rfl⟩ | ⟨hne, hq2⟩
    · obtain ⟨h1 | ⟨X, h0, h1⟩, h2⟩ := hR.bk _ _ hb
      · exact ⟨.inl ⟨Rc.mono s _ h1.1, h1.2 rfl⟩, h2⟩
      · exact ⟨.inr ⟨X, .inr ⟨h1.bk, c, _, hb, rfl, h1.bk, h0⟩, h1.keep s rfl⟩, h2⟩
    · refine (hR.bk c q hq2).keep k fun X ho hX hF => ⟨rfl, fun h => ?_⟩
      rcases h with h | ⟨h, _⟩
      · exact hF h
      · exact hne (hR.dj c b q _ X hq2 hb ho rfl hX h hF)
  · rcases get c q hq with ⟨rfl, rfl⟩ | ⟨hne, hq2⟩
    · cases ho
    · rcases get c' q' hq' with ⟨rfl, rfl⟩ | ⟨hne', hq2'⟩
      · cases ho'
      · exact hR.dj c c' q q' X hq2 hq2' ho ho' hX hX' fun h => hF (.inl h)
  · rcases get c q h1 with ⟨rfl, rfl⟩ | ⟨hne, hq2⟩
    · cases h2
    · exact ⟨c, q, hq2, h2, h3, fun h => h4 (.inl h)⟩
theorem Y_frz (b : Nat) {es : Nat} {l : List PV} (hb : B[b]? = some (.gs true es l)) (hK : K ≤ b) (hy : Y P K R k E (B.set b (.fz es l))) : Y P K R k E B := Y_wk (Wk_frz b hb hK) hy
theorem YR_wk {l' : RL} {q : Nat} {rem : RL} {E' : PE0} {B' : List PB} (hw : Wk K E B E' B') (hy : YR P K R l' q rem k E' B') : YR P K R l' q rem k E B := by
  intro hl ok L0 H0 B0 Rx r1 r2 L H Ea fw hK hR hE hF
  obtain ⟨L', h1, h2, h3, h4, h5, h6, h7⟩ := hw L H Ea hK hR hE
  have f' : Fw K L H B L' H B' := ⟨⟨Nat.le_refl _, h5, fun _ _ => rfl⟩, h4, fun _ _ _ _ => rfl, fun X hX => (h6 X hX).imp id .inl, fun X hX => .inl (h7 X hX)⟩
  exact hy hl ok L0 H0 B0 Rx r1 r2 L' H Ea (fw.trans f') h1 h2 h3 hF
theorem YR_frz {l' : RL} {q : Nat} {rem : RL} (b : Nat) {es : Nat} {l : List PV} (hb : B[b]? = some (.gs true es l)) (hK : K ≤ b) (hy : YR P K R l' q rem k E (B.set b (.fz es l))) : YR P K R l' q rem k E B := YR_wk (Wk_frz b hb hK) hy
/-- nil, as a slice of one's own that holds nothing. -/
theorem Wk_nil (t es : Nat) (ht : E t = .sn) : Wk K E B (E.st t (.gr B.length)) (B ++ [.gs true es []]) := by
  intro L H Ea hKL hR hE
  have hn := hR.n
  have hb : BkR (L.put .sn) H (.gs true es []) .sn := ⟨.inl ⟨Rc_snil, fun _ => rfl⟩, rfl⟩
  have k : Keep L H (L.put .sn) H := Keep_put .refl
  refine ⟨L.put .sn, Nat.le_succ_of_le hKL, HR_add hR hb (fun X hX => by cases hX), fun u => ?_, fun b hb => put_m (by omega), fun X h => h, fun X h => .inl h, fun X ⟨b, q, h1, h2, h3, h4⟩ => ?_⟩
  · simp only [PE0.st]
    split
    · rename_i he; subst he
      have := hE u
      rw [ht] at this
      simp only [Rp] at this
      rw [this, ← hn]
      exact ⟨Nat.lt_succ_self _, put_new.symm, rfl⟩
    · exact Rp.mono k _ (hE u)
  · by_cases hlt : b < B.length
    · rw [List.getElem?_append_left hlt] at h1
      rw [put_m (by omega)] at h3
      exact ⟨b, q, h1, h2, h3, h4⟩
    · exfalso
      have hb : b < (B ++ [PB.gs true es []]).length := (List.getElem?_eq_some_iff.1 h1).1
      simp at hb
      have : b = L.n := by omega
      subst this
      rw [put_new] at h3; cases h3
theorem RpL_set {L : Lk} {H : AH} : ∀ {l : List PV} {as : List AV} {j : Nat} {v : PV} {a : AV}, RpL L H l as → as[j]? = some a → Rp L H v a → RpL L H (l.set j v) as
  | [], as, j, v, a, h, _, _ => by simpa using h
  | x :: r, _, 0, v, a, ⟨a0, l', rfl, h2, h3⟩, ha, hv => by
    simp only [List.getElem?_cons_zero, Option.some.injEq] at ha; subst ha
    exact ⟨_, _, rfl, hv, h3⟩
  | x :: r, _, j + 1, v, a, ⟨a0, l', rfl, h2, h3⟩, ha, hv => by
    simp only [List.getElem?_cons_succ] at ha
    exact ⟨_, _, rfl, h2, RpL_set h3 ha hv⟩
/-- The same of a variable. -/
theorem Wk_nilc (b j es : Nat) {l : List PV} (hb : B[b]? = some (.va l)) (hj : l[j]? = some .sn) (hK : K ≤ b) : Wk K E B E (B.set b (.va (l.set j (.gr B.length))) ++ [.gs true es []]) := by
  intro L H Ea hKL hR hE
  have hn := hR.n
  have hbl : b < B.length := (List.getElem?_eq_some_iff.1 hb).1
  have hk : Keep L H (L.put .sn) H := Keep_put .refl
  have hb' : BkR (L.put .sn) H (.gs true es []) .sn := ⟨.inl ⟨Rc_snil, fun _ => rfl⟩, rfl⟩
  have h1 : HR (L.put .sn) H (B ++ [.gs true es []]) := HR_add hR hb' (fun X hX => by cases hX)
  have hset : B.set b (.va (l.set j (.gr B.length))) ++ [PB.gs true es []] = (B ++ [PB.gs true es []]).set b (.va (l.set j (.gr B.length))) := by
    rw [List.set_append_left _ _ hbl]
  rw [hset]
  have get : ∀ c q, ((B ++ [PB.gs true es []]).set b (.va (l.set j (.gr B.length))))[c]? = some q → (c = b ∧ q = .va (l.set j (.gr B.length))) ∨ (c ≠ b ∧ (B ++ [PB.gs true es []])[c]? = some q) := by
    intro c q hq
    rw [List.getElem?_set] at hq
    split at hq
    · rename_i he
      split at hq
      · simp only [Option.some.injEq] at hq; exact .inl ⟨he.symm, hq.symm⟩
      · cases hq
    · rename_i he; exact .inr ⟨fun e => he e.symm, hq⟩
  have hb2 : (B ++ [PB.gs true es []])[b]? = some (.va l) := by rw [List.getElem?_append_left hbl]; exact hb
  refine ⟨L.put .sn, Nat.le_succ_of_le hKL, ⟨by rw [List.length_set]; exact h1.n, h1.fl, h1.wf, fun c q hq => ?_, fun c c' q q' X hq hq' ho ho' hX hX' hF => ?_⟩, hE.mono hk, fun c hc => put_m (by omega), fun X h => h, fun X h => .inl h, fun X ⟨c, q, g1, g2, g3, g4⟩ => ?_⟩
  · rcases get c q hq with ⟨rfl, rfl⟩ | ⟨hne, hq2⟩
    · obtain ⟨X, cs, e1, e2, e3, e4, e5⟩ := h1.bk _ _ hb2
      refine ⟨X, cs, e1, e2, e3, e4, ?_⟩
      obtain ⟨a, ha, hr⟩ := e5.get hj
      simp only [Rp] at hr; subst hr
      refine RpL_set e5 ha ?_
      rw [← hn]
      exact ⟨Nat.lt_succ_self _, put_new.symm, rfl⟩
    · exact h1.bk c q hq2
  · rcases get c q hq with ⟨e1, e2⟩ | ⟨hne, hq2⟩ <;> rcases get c' q' hq' with ⟨e3, e4⟩ | ⟨hne', hq2'⟩
    · rw [e1, e3]
    · rw [e1] at hX ⊢
      exact h1.dj b c' _ q' X hb2 hq2' rfl ho' hX hX' hF
    · rw [e3] at hX' ⊢
      exact h1.dj c b q _ X hq2 hb2 ho rfl hX hX' hF
    · exact h1.dj c c' q q' X hq2 hq2' ho ho' hX hX' hF
  · have g : ∃ q', (B ++ [PB.gs true es []])[c]? = some q' ∧ q'.own = true := by
      rcases get c q g1 with ⟨rfl, rfl⟩ | ⟨_, h⟩
      · exact ⟨_, hb2, rfl⟩
      · exact ⟨_, h, g2⟩
    obtain ⟨q', g5, g6⟩ := g
    by_cases hlt : c < B.length
    · rw [List.getElem?_append_left hlt] at g5
      rw [put_m (by omega)] at g3
      exact ⟨c, q', g5, g6, g3, g4⟩
    · exfalso
      have hc : c < (B ++ [PB.gs true es []]).length := (List.getElem?_eq_some_iff.1 g5).1
      simp at hc
      have : c = L.n := by omega
      subst this
      rw [put_new] at g3; cases g3
theorem Y_nilc (b j es : Nat) {l : List PV} (hb : B[b]? = some (.va l)) (hj : l[j]? = some .sn) (hK : K ≤ b) (hy : Y P K R k E (B.set b (.va (l.set j (.gr B.length))) ++ [.gs true es []])) : Y P K R k E B := Y_wk (Wk_nilc b j es hb hj hK) hy
theorem Y_nils (t es : Nat) (ht : E t = .sn) (hy : Y P K R k (E.st t (.gr B.length)) (B ++ [.gs true es []])) : Y P K R k E B := Y_wk (Wk_nil t es ht) hy
end

/-! ### Values -/
/-- A test that holds, as is to be shown by arithmetic. -/
def szIf {α : Type} (c : Prop) [Decidable c] (x : Option α) : Option α := if c then x else none
theorem szIf_t {α : Type} {c : Prop} [Decidable c] {x : Option α} (h : c) : szIf c x = x := if_pos h
section
variable {E : PE0} {B : List PB}
theorem papp_z {es bytes : Nat} {s : PV} {m : List PV} : papp es bytes B s m = (pbase es B s).bind fun p => szIf ((p.2.1.length + m.length) * bytes ≤ 140737488355328 ∧ 0 < es) (some (.gr B.length, pkill B p.2.2 ++ [.gs (p.1 || !m.isEmpty) es (p.2.1 ++ m)])) := Eq.trans rfl rfl
theorem pmks_z {bytes : Nat} {z : List PV} {k k' : IntKind} {l c : Int} : pmks B bytes z (.it k l) (.it k' c) = szIf ((0 ≤ l ∧ l ≤ c ∧ c ≤ 9223372036854775807 ∧ (bytes : Int) * c ≤ 140737488355328) ∧ PV.scaL z = true) (some (.gr B.length, B ++ [.gs true z.length (List.replicate l.toNat (elemOf z))])) := Eq.trans rfl rfl
theorem pia_grz {es b : Nat} {k : IntKind} {i : Int} : pia es B (.gr b) (.it k i) = (pblk B b).bind fun p => szIf (0 ≤ i ∧ i < p.2.length ∧ p.1 = es) (some (.pg es b i.toNat 0)) := Eq.trans rfl rfl
theorem pia_gpz {es es' b lo n : Nat} {k : IntKind} {i : Int} : pia es B (.gp es' b lo n) (.it k i) = (pblk B b).bind fun p => szIf (0 ≤ i ∧ i < n ∧ p.1 = es ∧ es' = es ∧ lo + n ≤ p.2.length) (some (.pg es b (lo + i.toNat) 0)) := Eq.trans rfl rfl
theorem piaa_z {n es : Nat} {x : PV} {k : IntKind} {i : Int} : piaa n es x (.it k i) = szIf (0 ≤ i ∧ i < n) (pfa (i.toNat * es) x) := by cases x <;> exact Eq.trans rfl rfl
theorem pix_z {n es : Nat} {ag : Bool} {l : List PV} {k : IntKind} {i : Int} : pix n es ag (.ag l) (.it k i) = szIf (0 ≤ i ∧ i < n) (papart l (i.toNat * es) es ag) := Eq.trans rfl rfl
theorem pbnd_n {d top : Nat} : pbnd E d top none = some d := Eq.trans rfl rfl
theorem pbnd_s {d top : Nat} {x : Opd} : pbnd E d top (some x) = match pev E x with | .it _ i => szIf (0 ≤ i ∧ i ≤ top) (some i.toNat) | _ => none := Eq.trans rfl rfl
theorem pslc_sn {es : Nat} {lo hi : Option Opd} : pslc es B E .sn lo hi none = (pbnd E 0 0 hi).bind fun h => (pbnd E 0 h lo).bind fun l => some .sn := Eq.trans rfl rfl
theorem pslc_vs {w es : Nat} {l : List PV} {lo hi : Option Opd} : pslc es B E (.vs w es l) lo hi none = (pbnd E l.length l.length hi).bind fun h => (pbnd E 0 h lo).bind fun k => some (.vs (if lo = none then min w 1 else if 2 ≤ w then 1 else 0) es ((l.take h).drop k)) := by simp [pslc]
theorem pslc_vsm {w es : Nat} {l : List PV} {lo : Option Opd} {hi m : Opd} : pslc es B E (.vs w es l) lo (some hi) (some m) = (pbnd E l.length l.length (some m)).bind fun m => (pbnd E l.length m (some hi)).bind fun h => (pbnd E 0 h lo).bind fun k => szIf (1 ≤ w ∨ k < m) (some (.vs (if h = m then 2 else 1) es ((l.take h).drop k))) := by simp [pslc, szIf]
theorem pslc_gr {es b : Nat} {lo hi : Option Opd} : pslc es B E (.gr b) lo hi none = (pblk B b).bind fun p => szIf (p.1 = es) ((pbnd E p.2.length p.2.length hi).bind fun h => (pbnd E 0 h lo).bind fun k => some (.gp es b k (h - k))) := Eq.trans rfl rfl
theorem pcont_gp {es es' b lo n : Nat} : pcont es B (.gp es' b lo n) = (pblk B b).bind fun p => szIf (es' = es ∧ p.1 = es ∧ lo + n ≤ p.2.length) (some ((p.2.drop lo).take n)) := Eq.trans rfl rfl
theorem pcont_gr {es b : Nat} : pcont es B (.gr b) = match B[b]? with | some (.gs _ es' l) => if es' = es then some l else none | some (.fz es' l) => if es' = es then some l else none | _ => none := Eq.trans rfl rfl
theorem pbase_gr {es b : Nat} : pbase es B (.gr b) = match B[b]? with | some (.gs w es' l) => if es' = es then some (w, l, some b) else none | _ => none := Eq.trans rfl rfl
theorem pset_0 {l : List PV} {i es : Nat} {m : List PV} {x : PV} : psetE l i 0 es es m x = szIf (x.cld = true ∧ i < l.length) (some (l.set i x)) := by simp [psetE, szIf]
theorem pset_n {l : List PV} {i o n es : Nat} {m : List PV} {x : PV} (h : ¬ (o = 0 ∧ n = es)) : psetE l i o n es m x = (l[i]?).bind fun e => e.cl.bind fun c => if c.length = es ∧ PV.scaL (c.take o ++ (m ++ c.drop (o + n))) = true then some (l.set i (elemOf (c.take o ++ (m ++ c.drop (o + n))))) else none := by rw [psetE, if_neg h]
theorem pcells_pg {es b i o : Nat} : pcells B (.pg es b i o) = (pblk B b).bind fun p => if p.1 = es then (p.2[i]?).bind fun e => e.cl.bind fun c => if c.length = es then some (c, o) else none else none := Eq.trans rfl rfl
theorem pia_vs' {es w : Nat} {l : List PV} {k : IntKind} {i : Int} (h0 : 0 ≤ i) (h1 : i < l.length) : pia es B (.vs w es l) (.it k i) = (l[i.toNat]?).bind fun e => e.cl.map fun c => .pe c 0 := by
  rw [pia_vs, if_pos ⟨h0, h1, rfl⟩]
def ga {α : Type} [Inhabited α] (l : List α) (n : Nat) : α := l.getD n default
theorem ga_some {α : Type} [Inhabited α] {l : List α} {n : Nat} (h : n < l.length) : l[n]? = some (ga l n) := by
  simp only [ga, List.getD_eq_getElem?_getD, List.getElem?_eq_getElem h, Option.getD_some]
theorem ga_map {α : Type} [Inhabited α] {l : List α} {f : α → PV} {n : Nat} (h : n < l.length) : (l.map f)[n]? = some (f (ga l n)) := by rw [List.getElem?_map, ga_some h]; rfl
theorem ga_eq {α : Type} [Inhabited α] {l : List α} {n : Nat} {x : α} (h : l[n]? = some x) : ga l n = x := by simp only [ga, List.getD_eq_getElem?_getD, h, Option.getD_some]
variable {te : EqT} {cn : Bool} {k : IntKind} {a b : Int}
theorem veql : vbin .eql te cn (.it k a) (.it k b) = some (.bo (decide (a = b))) := by rw [vbin_eql]; rfl
theorem vneq : vbin .neq te cn (.it k a) (.it k b) = some (.bo (decide (¬ a = b))) := by
  rw [vbin_neq]
  by_cases h : a = b <;> simp [h]
theorem vgtr : vbin .gtr te cn (.it k a) (.it k b) = some (.bo (decide (b < a))) := by rw [vbin_gtr]
theorem vgeq : vbin .geq te cn (.it k a) (.it k b) = some (.bo (decide (b ≤ a))) := by rw [vbin_geq]
theorem sceqK_0d {a b : Int} : sceqK 0 (.it k a) (.it k b) = some (decide (a = b)) := by rw [sceqK_0]; rfl
theorem pun_notd {p : Prop} [Decidable p] : pun .not (.bo (decide p)) = some (.bo (decide (¬ p))) := by rw [pun_not, decide_not]
theorem pun_t : pun .not (.bo true) = some (.bo false) := Eq.trans rfl rfl
theorem pun_f : pun .not (.bo false) = some (.bo true) := Eq.trans rfl rfl
theorem Wv_res (dp : Nat) {u v : PV} (h : u.res B dp = some v) : Wv 0 B u [] v := Wv_cl dp h
theorem wrap_id {x : Int} (h : -9223372036854775808 ≤ x ∧ x ≤ 9223372036854775807) : IntKind.i64.wrap x = x := by rw [IntKind.wrap_i64]; omega
theorem Bool_b {c : Bool} : c = decide (c = true) := by cases c <;> rfl
end
section
variable {P : Program} {K : Nat} {R : PEnd} {k : List It} {E : PE0} {B : List PB} {l : RL} {q : Nat} {d : Option Nat} {g : Option (Nat × Bool)} {rk : List Nat} {ck : Bool} {rem : RL}
/-- The same, for the walk to go on from. -/
theorem YR_opB (p0 t n xx b o : Nat) {lv : List PV} {vo : VOp} (hps : ∀ p ∈ pendL l q, p = p0) (hat : (l.at p0).1 = ⟨some t, none, .v (.ld n (.t xx))⟩) (hx : E xx = .pt b o) (hb : B[b]? = some (.va lv))
    (hT : ∀ b' ∈ tch E vo, b' ≠ b ∧ ∃ y, B[b']? = some y ∧ y.own = true) (hg : gval E g = some true) (hz : ZRV (ZR P K R l k (q + 1) rem) (pop vo E B) true [] d E False) : YR P K R l q ((⟨d, g, .v vo⟩, rk, ck) :: rem) k E B := by
  unfold ZRV at hz
  split at hz
  · rename_i v B' he
    rw [if_pos (.inl rfl)] at hz
    exact YR_opA p0 t n xx b o hps hat hx hb hT hg he (YR_go hz)
  · exact hz.elim
end

end Go.AX
