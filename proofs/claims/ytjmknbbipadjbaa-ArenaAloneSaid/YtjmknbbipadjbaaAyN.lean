/- AY, part N: weaker values; a loop's state, told by lists. -/
import Derived.Test.YtjmknbbipadjbaaAyM
set_option linter.unusedSimpArgs false
set_option linter.unusedVariables false
namespace Go.AX
open Go

mutual
/-- Told with less: nil as an empty slice, room forgotten. -/
def Ple : PV → PV → Prop
  | u, .dd => True
  | .sn, .vs _ _ l => l = []
  | .vs w es l, .vs w' es' l' => w' ≤ w ∧ es = es' ∧ l = l'
  | .ag l, .ag m => PleL l m
  | .tu l, .tu m => PleL l m
  | u, v => u = v
def PleL : List PV → List PV → Prop
  | [], m => m = []
  | u :: l, m => ∃ v m', m = v :: m' ∧ Ple u v ∧ PleL l m'
end
mutual
theorem Rc.le {F : Nat → Prop} {H : AH} : ∀ (u v : PV) {a : AV}, Ple u v → Rc F H u a → Rc F H v a := by
  intro u v a hl h
  unfold Ple at hl
  split at hl
  · trivial
  · subst hl; simp only [Rc] at h; subst h; exact Rc_snil
  · obtain ⟨h1, rfl, rfl⟩ := hl
    exact Rc_w h h1
  · rename_i l m
    obtain ⟨l', h1, h2⟩ := h
    exact ⟨l', h1, RcL.le l m hl h2⟩
  · rename_i l m
    obtain ⟨l', h1, h2⟩ := h
    exact ⟨l', h1, RcL.le l m hl h2⟩
  · subst hl; exact h
theorem RcL.le {F : Nat → Prop} {H : AH} : ∀ (l m : List PV) {as : List AV}, PleL l m → RcL F H l as → RcL F H m as
  | [], m, _, hl, h => by simp only [PleL] at hl; subst hl; exact h
  | u :: l, m, _, hl, ⟨a, l', h1, h2, h3⟩ => by
    simp only [PleL] at hl
    obtain ⟨v, m', rfl, h4, h5⟩ := hl
    exact ⟨a, l', h1, Rc.le u v h4 h2, RcL.le l m' h5 h3⟩
end
theorem ple_dd {u : PV} : Ple u .dd = True := by unfold Ple; cases u <;> rfl
theorem ple_sn {w es : Nat} {l : List PV} : Ple .sn (.vs w es l) = (l = []) := Eq.trans rfl rfl
theorem ple_vs {w es w' es' : Nat} {l l' : List PV} : Ple (.vs w es l) (.vs w' es' l') = (w' ≤ w ∧ es = es' ∧ l = l') := Eq.trans rfl rfl
theorem ple_ag {l m : List PV} : Ple (.ag l) (.ag m) = PleL l m := by unfold Ple; rfl
theorem ple_tu {l m : List PV} : Ple (.tu l) (.tu m) = PleL l m := by unfold Ple; rfl
theorem ple_it {k k' : IntKind} {a b : Int} : Ple (.it k a) (.it k' b) = (k = k' ∧ a = b) := by
  unfold Ple; simp
theorem ple_bo {a b : Bool} : Ple (.bo a) (.bo b) = (a = b) := by
  unfold Ple; simp
theorem ple_n : PleL [] [] = True := by simp [PleL]
theorem ple_c {u v : PV} {l m : List PV} : PleL (u :: l) (v :: m) = (Ple u v ∧ PleL l m) := by
  apply propext
  simp only [PleL, List.cons.injEq]
  exact ⟨fun ⟨_, _, ⟨rfl, rfl⟩, h1, h2⟩ => ⟨h1, h2⟩, fun h => ⟨_, _, ⟨rfl, rfl⟩, h⟩⟩
theorem ple_pe {l m : List PV} {o p : Nat} : Ple (.pe l o) (.pe m p) = (l = m ∧ o = p) := by unfold Ple; simp

section
variable {K : Nat} {E : PE0} {B : List PB}
theorem Wv_le (d : Nat) {u v v0 : PV} (h : u.res B d = some v0) (hl : Ple v0 v) : Wv 0 B u [] v := by
  intro L H a hK hR hu
  have hF : ∀ X, L.F X ∨ Ow L B X → X < H.nx := fun X hX => hX.elim (hR.fl X) (Ow_lt hR)
  refine ⟨⟨0, L.m, fun X => L.F X ∨ Ow L B X⟩, Nat.le_refl _, HR_nil hF hR.wf, Rc.p _ (Rc.le _ _ hl ((res_ok hR (fun _ h => .inl h) (fun _ h => .inr h) d).1 u hu h)), fun b hb => by omega, fun X h => .inl h, fun X h => h, fun X ⟨b, p, h1, _⟩ => by simp at h1⟩

/-! ### A loop's state -/
def rho (r : List Nat) (b : Nat) : Nat := r.getD b 0
def WkE (r : List Nat) (n : Nat) (E : PE0) : List (Nat × PV) → Prop
  | [] => True
  | (t, v) :: l => (E t = v.ren (rho r) ∧ v.bel n = true) ∧ WkE r n E l
def WkB (r : List Nat) (n : Nat) (B : List PB) : List PB → List Nat → Prop
  | [], [] => True
  | p :: ps, b :: bs => (B[b]? = some (p.ren (rho r)) ∧ p.bel n = true) ∧ WkB r n B ps bs
  | _, _ => False
theorem WkB_len {r : List Nat} {n : Nat} : ∀ {ps : List PB} {bs : List Nat}, WkB r n B ps bs → bs.length = ps.length
  | [], [], _ => rfl
  | p :: ps, b :: bs, h => by simp [WkB_len h.2]
  | [], _ :: _, h => h.elim
  | _ :: _, [], h => h.elim
theorem WkB_get {r : List Nat} {n : Nat} : ∀ {ps : List PB} {bs : List Nat} {i : Nat} {p : PB}, WkB r n B ps bs → ps[i]? = some p → ∃ b, bs[i]? = some b ∧ B[b]? = some (p.ren (rho r)) ∧ p.bel n = true
  | [], _, _, _, _, h => by simp at h
  | p :: ps, b :: bs, 0, q, h, hi => by
    simp only [List.getElem?_cons_zero, Option.some.injEq] at hi; subst hi
    exact ⟨b, rfl, h.1⟩
  | p :: ps, b :: bs, i + 1, q, h, hi => by
    simp only [List.getElem?_cons_succ] at hi ⊢
    exact WkB_get h.2 hi
  | _ :: _, [], _, _, h, _ => h.elim
theorem WkE_get {r : List Nat} {n : Nat} : ∀ {l : List (Nat × PV)} (t : Nat), WkE r n E l → lv l t = .dd ∨ (E t = (lv l t).ren (rho r) ∧ (lv l t).bel n = true)
  | [], t, _ => .inl rfl
  | (s, v) :: l, t, h => by
    simp only [lv, PE0.st]
    split
    · rename_i he; subst he; exact .inr h.1
    · exact WkE_get t h.2
/-- The names of a loop's state, and where they lie now. -/
theorem Wk_l (r : List Nat) {l : List (Nat × PV)} {B' : List PB} (hK : K ≤ B'.length) (hr : ∀ b, b < K → rho r b = b) (hn : r.Nodup) (hB : WkB r B'.length B B' r) (hE : WkE r B'.length E l) : Wk K E B (lv l) B' := by
  have hlen := WkB_len hB
  refine Wk_ren (rho r) hK hr (fun b c hb hc h => ?_) (fun b p hp => ?_) (fun t => WkE_get t hE)
  · have h1 : r.getD b 0 = r.getD c 0 := h
    rw [List.getD_eq_getElem?_getD, List.getD_eq_getElem?_getD, List.getElem?_eq_getElem (by omega), List.getElem?_eq_getElem (by omega)] at h1
    simp only [Option.getD_some] at h1
    exact (List.getElem_inj hn).1 h1
  · obtain ⟨c, h1, h2⟩ := WkB_get hB hp
    have : rho r b = c := by simp only [rho, List.getD_eq_getElem?_getD, h1, Option.getD_some]
    rw [this]; exact h2
structure Hid (p : Prop) : Prop where
  h : p
theorem Y_loopI {P : Program} {R : PEnd} {k : List It} {σ : Type} (live : σ → List (Nat × PV)) (bs : σ → List PB) (I : σ → Prop) (μ : σ → Nat) {a : RC} (s : σ) (hI : I s) (h0 : Wk K E B (lv (live s)) (bs s))
    (step : ∀ s, I s → Hid (∀ s' E' B', I s' → μ s' < μ s → Wk K E' B' (lv (live s')) (bs s') → Y P K R (.lp a :: k) E' B') → Y P K R (.c a :: .lp a :: k) (lv (live s)) (bs s)) : Y P K R (.c (.loop a) :: k) E B :=
  Y_loop (σ := { s : σ // I s }) (fun s => (lv (live s.1), bs s.1)) (fun s => μ s.1) ⟨s, hI⟩ h0 fun s hn => step s.1 s.2 ⟨fun s' E' B' hI' hlt hw => hn ⟨s', hI'⟩ E' B' hlt hw⟩
theorem wke_n {r : List Nat} {n : Nat} : WkE r n E [] = True := Eq.trans rfl rfl
theorem wke_c {r : List Nat} {n t : Nat} {v : PV} {l : List (Nat × PV)} : WkE r n E ((t, v) :: l) = ((E t = v.ren (rho r) ∧ v.bel n = true) ∧ WkE r n E l) := Eq.trans rfl rfl
theorem wkb_n {r : List Nat} {n : Nat} : WkB r n B [] [] = True := Eq.trans rfl rfl
theorem wkb_c {r : List Nat} {n b : Nat} {p : PB} {ps : List PB} {bs : List Nat} : WkB r n B (p :: ps) (b :: bs) = ((B[b]? = some (p.ren (rho r)) ∧ p.bel n = true) ∧ WkB r n B ps bs) := Eq.trans rfl rfl
theorem rho_0 {b : Nat} {r : List Nat} : rho (b :: r) 0 = b := Eq.trans rfl rfl
theorem rho_s {b n : Nat} {r : List Nat} : rho (b :: r) (n + 1) = rho r n := Eq.trans rfl rfl
end
end Go.AX
