/- AY, part I: what a resolved value stands for; calls. -/
import Derived.Test.YtjmknbbipadjbaaAyH
set_option linter.unusedSimpArgs false
set_option linter.unusedVariables false
namespace Go.AX
open Go

section
variable {L L' : Lk} {H H' : AH} {B B' : List PB} {E : Nat → PV} {Ea : Env}
theorem Rc_w {F : Nat → Prop} {w w' es : Nat} {l : List PV} {a : AV} (h : Rc F H (.vs w es l) a) (hw : w' ≤ w) : Rc F H (.vs w' es l) a := ⟨h.1, fun h1 => h.2.1 (by omega), fun h1 => h.2.2 (by omega)⟩
theorem GsX.vs {F F0 : Nat → Prop} {es : Nat} {l : List PV} {a : AV} {X : Nat} (h : GsX F H es l a X) (hF : ∀ X, F X → F0 X) (hX : F0 X) : Rc F0 H (.vs 1 es l) a := by
  have s : Stay F H F0 H := ⟨Nat.le_refl _, hF, fun _ _ => rfl⟩
  obtain ⟨cs, h1, h2⟩ := h.sl
  refine ⟨⟨cs, h1, fun b hb => ?_, RcE.mono s _ _ h2⟩, fun _ b o q n e he => ?_, fun h => by omega⟩
  · rw [h.bk] at hb; simp only [Option.some.injEq] at hb; subst hb; exact hX
  · obtain ⟨_, _, _, _, _, ⟨h5, _⟩ | ⟨_, _, h5, _⟩⟩ := h
    · rw [h5] at he; simp only [AV.sg.injEq] at he
      obtain ⟨_, h6, h7, _⟩ := he
      omega
    · rw [h5] at he; cases he
theorem bk_vs (h : HR L H B) {b es : Nat} {l : List PV} {F0 : Nat → Prop} (hF : ∀ X, L.F X → F0 X) (hO : ∀ X, Ow L B X → F0 X) (hb : (∃ w, B[b]? = some (.gs w es l)) ∨ B[b]? = some (.fz es l)) : Rc F0 H (.vs 1 es l) (L.m b) := by
  have s : Stay L.F H F0 H := ⟨Nat.le_refl _, hF, fun _ _ => rfl⟩
  rcases hb with ⟨w, hb⟩ | hb
  · obtain ⟨⟨h1, _⟩ | ⟨X, h0, h1⟩, _⟩ := h.bk _ _ hb
    · exact Rc_w (Rc.mono s _ h1) (by omega)
    · exact h1.vs hF (hO X ⟨b, _, hb, rfl, h1.bk, h0⟩)
  · obtain ⟨⟨h1, _⟩ | ⟨X, h0, h1⟩, _⟩ := h.bk _ _ hb
    · exact Rc_w (Rc.mono s _ h1) (by omega)
    · exact h1.vs hF (hF X h0)
theorem pblk_bk (h : HR L H B) {b es X : Nat} {l : List PV} {F0 : Nat → Prop} (hF : ∀ X, L.F X → F0 X) (hO : ∀ X, Ow L B X → F0 X) (hb : pblk B b = some (es, l)) (hX : (L.m b).bk = some X) : F0 X := by
  have hv : Rc F0 H (.vs 1 es l) (L.m b) := by
    unfold pblk at hb
    split at hb
    · rename_i he
      simp only [Option.some.injEq, Prod.mk.injEq] at hb
      obtain ⟨rfl, rfl⟩ := hb
      exact bk_vs h hF hO (.inl ⟨_, he⟩)
    · rename_i he
      simp only [Option.some.injEq, Prod.mk.injEq] at hb
      obtain ⟨rfl, rfl⟩ := hb
      exact bk_vs h hF hO (.inr he)
    · cases hb
  obtain ⟨⟨_, _, h2, _⟩, _⟩ := hv
  exact h2 X hX
theorem gp_vs (h : HR L H B) {b es lo n : Nat} {l : List PV} {a : AV} {F0 : Nat → Prop} (hF : ∀ X, L.F X → F0 X) (hO : ∀ X, Ow L B X → F0 X) (hb : pblk B b = some (es, l)) (hv : gpR L.F H es (L.m b) lo n a) (hle : lo + n ≤ l.length) :
    Rc F0 H (.vs 0 es ((l.drop lo).take n)) a := by
  have s : Stay L.F H F0 H := ⟨Nat.le_refl _, hF, fun _ _ => rfl⟩
  have hlen : ((l.drop lo).take n).length = n := by simp; omega
  rcases hv with ⟨rfl, hv⟩ | ⟨X, hX, hv⟩
  · have : (l.drop lo).take 0 = [] := by simp
    rw [this]
    exact Rc.mono s _ hv
  · have hFX := pblk_bk h hF hO hb hX
    have hbk : ∀ {a' : AV}, a'.bk = some X → slF F0 a' := fun ha b hb => by rw [ha] at hb; simp only [Option.some.injEq] at hb; subst hb; exact hFX
    rcases pblk_ok h hb with ⟨hr, hnil⟩ | ⟨X', h1⟩
    · subst hnil
      simp only [List.length_nil] at hle
      obtain rfl : n = 0 := by omega
      obtain rfl : lo = 0 := by omega
      have he : ((([] : List PV).drop 0).take 0) = [] := rfl
      rw [he]
      obtain ⟨⟨cs, g1, g2, g3⟩, g4, g5⟩ := hr
      rcases hv with ⟨o, c, rfl, h3, h4⟩ | ⟨o, q, n0, rfl, h3, h4, h5⟩
      · have : o = 0 := by omega
        subst this
        have hlt : X < H.nx := by
          rcases g5 (Nat.le_refl _) with g5 | ⟨Y, o, g5⟩
          · rw [g5] at hX; cases hX
          · rw [g5] at g1 hX
            simp only [AV.bk, Option.some.injEq] at hX; subst hX
            simp only [List.length_nil] at g1
            cases g1 with
            | sl k1 => exact k1
        exact ⟨⟨[], .sl hlt (fun i v hi => by simp at hi) (by simp) (by simp) h3, hbk rfl, rfl⟩, (by intro hw; omega), (by intro hw; omega)⟩
      · exfalso
        rcases g5 (Nat.le_refl _) with g5 | ⟨Y, o, g5⟩ <;> (rw [g5] at h5; cases h5)
    · have hX' := h1.bk
      rw [hX] at hX'
      simp only [Option.some.injEq] at hX'; subst hX'
      obtain ⟨cs, sp, g1, g2, g3, g4⟩ := h1
      have hcl := g3.len
      have hmul : lo * es + n * es ≤ cs.length := by rw [hcl, ← Nat.add_mul]; exact Nat.mul_le_mul_right _ hle
      have hrd := Rd.of g2 (lo * es) (n * es) hmul
      have hclen : ((cs.drop (lo * es)).take (n * es)).length = n * es := by simp; omega
      have hE : RcE F0 H es ((l.drop lo).take n) ((cs.drop (lo * es)).take (n * es)) := RcE.mono s _ _ ((g3.drop lo).take n)
      rcases hv with ⟨o, c, rfl, h3, h4⟩ | ⟨o, q, n0, rfl, h3, h4, h5⟩
      · rcases h4 with ⟨rfl, h4⟩ | h4
        · have : (l.drop lo).take 0 = [] := by simp
          rw [this]
          exact ⟨⟨[], .sl g1 (fun i v hi => by simp at hi) (by rw [g2]; simp [Blk.cells]; omega) (by simp) h3, hbk rfl, rfl⟩, (by intro hw; omega), (by intro hw; omega)⟩
        · subst h4
          exact ⟨⟨_, by rw [hlen]; exact .sl g1 hrd.1 hrd.2 hclen h3, hbk rfl, hE⟩, (by intro hw; omega), (by intro hw; omega)⟩
      · subst h4
        exact ⟨⟨_, by rw [hlen]; exact .sg g1 hrd.1 hrd.2 (by rw [g2]; rfl) hclen h3, hbk rfl, hE⟩, (by intro hw; omega), (by intro hw; omega)⟩
theorem res_ok (h : HR L H B) {F0 : Nat → Prop} (hF : ∀ X, L.F X → F0 X) (hO : ∀ X, Ow L B X → F0 X) : ∀ (d : Nat), (∀ (v : PV) {a : AV} {v' : PV}, Rp L H v a → v.res B d = some v' → Rc F0 H v' a) ∧ (∀ (l : List PV) {as : List AV} {l' : List PV}, RpL L H l as → PV.resL B d l = some l' → RcL F0 H l' as) := by
  have s : Stay L.F H F0 H := ⟨Nat.le_refl _, hF, fun _ _ => rfl⟩
  intro d
  induction d with
  | zero =>
    refine ⟨fun v a v' hv hr => ?_, fun l as l' hl hr => ?_⟩
    · cases v <;> simp only [PV.res, reduceCtorEq, Option.some.injEq] at hr <;> subst hr <;> exact hv
    · cases l with
      | nil => simp only [PV.resL, Option.some.injEq] at hr; subst hr; exact hl
      | cons => simp only [PV.resL, reduceCtorEq] at hr
  | succ d ih =>
    obtain ⟨ihv, ihl⟩ := ih
    have step : ∀ (v : PV) {a : AV} {v' : PV}, Rp L H v a → v.res B (d + 1) = some v' → Rc F0 H v' a := by
      intro v a v' hv hr
      cases v with
      | pt b o =>
        obtain ⟨h0, X, hm, rfl⟩ := hv
        simp only [PV.res] at hr
        split at hr
        · rename_i l he
          simp only [Option.some.injEq] at hr; subst hr
          obtain ⟨⟨X', q, cs, h1, h2, h3, h4⟩, _⟩ := h.bk _ _ he
          rw [hm] at h1
          simp only [AV.pt.injEq] at h1
          obtain ⟨rfl, h1⟩ := h1
          obtain rfl : q = 0 := by omega
          exact ⟨X, 0, cs, by rw [Nat.zero_add], hF X h2, h3, RcL.mono s _ h4⟩
        · rename_i l he
          obtain ⟨l', hl', rfl⟩ := Option.map_eq_some_iff.1 hr
          obtain ⟨X', cs, h1, h2, h3, h4, h5⟩ := h.bk _ _ he
          have hX : (L.m b).bk = some X := by rw [hm]; rfl
          rw [hm] at h1
          simp only [AV.pt.injEq, and_true] at h1; subst h1
          exact ⟨X, 0, cs, by rw [Nat.zero_add], hO X ⟨b, _, he, rfl, hX, h3⟩, ⟨fun i v hi => by rw [h4, Nat.zero_add]; exact hi, by rw [h4]; simp [Blk.cells]⟩, ihl _ h5 hl'⟩
        · cases hr
      | pg es b i o =>
        obtain ⟨h0, X, hX, rfl⟩ := hv
        simp only [PV.res, Option.bind_eq_some_iff] at hr
        obtain ⟨⟨es', l'⟩, hb, hr⟩ := hr
        split at hr
        · rename_i he
          simp only at he; subst he
          simp only [Option.bind_eq_some_iff] at hr
          obtain ⟨e, he, c, hcl, hr⟩ := hr
          split at hr
          · rename_i hlen
            simp only [Option.some.injEq] at hr; subst hr
            have hFX := pblk_bk h hF hO hb hX
            rcases pblk_ok h hb with ⟨_, h1⟩ | ⟨X', h1⟩
            · rw [h1] at he; simp at he
            · have hX' := h1.bk
              rw [hX] at hX'
              simp only [Option.some.injEq] at hX'; subst hX'
              obtain ⟨cs, sp, h2, h3, h4, _⟩ := h1
              obtain ⟨a, r1, r2, r3, r4⟩ := h4.elt he
              obtain ⟨c', hc', hr⟩ := r1.cl hcl
              rw [r2] at hc'
              simp only [Option.some.injEq] at hc'; subst hc'
              exact ⟨X, i * es', _, rfl, hFX, Rd.of h3 _ _ (by omega), RcL.mono s _ hr⟩
          · cases hr
        · cases hr
      | gr b =>
        obtain ⟨h0, rfl, _⟩ := hv
        simp only [PV.res] at hr
        split at hr
        · rename_i he
          simp only [Option.some.injEq] at hr; subst hr
          exact bk_vs h hF hO (.inl ⟨_, he⟩)
        · rename_i he
          simp only [Option.some.injEq] at hr; subst hr
          exact bk_vs h hF hO (.inr he)
        · cases hr
      | gp es b lo n =>
        obtain ⟨h0, hv⟩ := hv
        simp only [PV.res, Option.bind_eq_some_iff] at hr
        obtain ⟨⟨es', l'⟩, hb, hr⟩ := hr
        split at hr
        · rename_i hcnd
          obtain ⟨he, hle⟩ := hcnd
          simp only at he; subst he
          simp only [Option.some.injEq] at hr; subst hr
          exact gp_vs h hF hO hb hv hle
        · cases hr
      | fn f p c =>
        obtain ⟨p', c', rfl, h2, h3⟩ := hv
        simp only [PV.res, Option.bind_eq_some_iff, Option.map_eq_some_iff] at hr
        obtain ⟨q, hq, u, hu, rfl⟩ := hr
        exact ⟨_, _, rfl, ihl _ h2 hq, ihl _ h3 hu⟩
      | fc t v =>
        obtain ⟨w, rfl, h2⟩ := hv
        simp only [PV.res, Option.map_eq_some_iff] at hr
        obtain ⟨u, hu, rfl⟩ := hr
        exact ⟨_, rfl, ihv _ h2 hu⟩
      | ag l =>
        obtain ⟨w, rfl, h2⟩ := hv
        simp only [PV.res, Option.map_eq_some_iff] at hr
        obtain ⟨u, hu, rfl⟩ := hr
        exact ⟨_, rfl, ihl _ h2 hu⟩
      | tu l =>
        obtain ⟨w, rfl, h2⟩ := hv
        simp only [PV.res, Option.map_eq_some_iff] at hr
        obtain ⟨u, hu, rfl⟩ := hr
        exact ⟨_, rfl, ihl _ h2 hu⟩
      | dd => simp only [PV.res, Option.some.injEq] at hr; subst hr; trivial
      | vs w es l => simp only [PV.res, Option.some.injEq] at hr; subst hr; exact Rc.mono s _ hv
      | pe l o => simp only [PV.res, Option.some.injEq] at hr; subst hr; exact Rc.mono s _ hv
      | _ => simp only [PV.res, Option.some.injEq] at hr; subst hr; exact hv
    refine ⟨step, fun l => ?_⟩
    induction l with
    | nil => intro as l' hl hr; simp only [PV.resL, Option.some.injEq] at hr; subst hr; exact hl
    | cons v r ihr =>
      rintro as l' ⟨a, as', rfl, h1, h2⟩ hr
      simp only [PV.resL, Option.bind_eq_some_iff, Option.map_eq_some_iff] at hr
      obtain ⟨u, hu, r', hr', rfl⟩ := hr
      exact ⟨a, as', rfl, ihv v h1 hu, ihr h2 hr'⟩

/-! ### Calls -/
/-- A function, called where names lie: what it yields, and the names' blocks behind it. -/
def PCall (P : Program) (f : FuncId) (B : List PB) (args : List PV) (B' : List PB) (v : PV) (T : List Nat) : Prop :=
  ∀ L H avs, HR L H B → RpL L H args avs → ∃ a H' L', CallT P f avs H (.ret a) H' ∧ Ev L H B L' H' B' ∧ HR L' H' B' ∧ Rp L' H' v a ∧ ∀ X, X < H.nx → (∀ b ∈ T, b < L.n → (L.m b).bk ≠ some X) → H'.g X = H.g X
/-- A function of closed values: what it yields may name blocks that are given along. -/
def Pu (P : Program) (f : FuncId) (args : List PV) (B' : List PB) (v : PV) : Prop := PCall P f [] args B' v []
mutual
/-- No slice, no place: it hangs on no memory. -/
def PV.flat : PV → Bool
  | .bo _ | .it _ _ | .st _ | .np | .nf | .ni | .sn | .dd => true
  | .ag l => PV.flatL l
  | .tu l => PV.flatL l
  | _ => false
def PV.flatL : List PV → Bool
  | [] => true
  | v :: l => v.flat && PV.flatL l
end
mutual
theorem Rp_flat : ∀ (v : PV) {a : AV}, v.flat = true → Rp L H v a → Rp L' H' v a
  | .bo _, _, _, h | .it _ _, _, _, h | .st _, _, _, h | .np, _, _, h | .nf, _, _, h | .ni, _, _, h | .sn, _, _, h => h
  | .dd, _, _, _ => trivial
  | .ag l, _, hf, ⟨l', h1, h2⟩ => by
    simp only [PV.flat] at hf
    exact ⟨l', h1, RpL_flat l hf h2⟩
  | .tu l, _, hf, ⟨l', h1, h2⟩ => by
    simp only [PV.flat] at hf
    exact ⟨l', h1, RpL_flat l hf h2⟩
  | .vs _ _ _, _, hf, _ | .pe _ _, _, hf, _ | .pt _ _, _, hf, _ | .pg _ _ _ _, _, hf, _ | .gr _, _, hf, _ | .gp _ _ _ _, _, hf, _ | .fn _ _ _, _, hf, _ | .fc _ _, _, hf, _ => by simp [PV.flat] at hf
theorem RpL_flat : ∀ (l : List PV) {as : List AV}, PV.flatL l = true → RpL L H l as → RpL L' H' l as
  | [], _, _, h => h
  | v :: r, _, hf, ⟨a, l', h1, h2, h3⟩ => by
    simp only [PV.flatL, Bool.and_eq_true] at hf
    exact ⟨a, l', h1, Rp_flat v hf.1 h2, RpL_flat r hf.2 h3⟩
end
theorem HR_nil {F : Nat → Prop} {m : Nat → AV} (hF : ∀ X, F X → X < H.nx) (hw : ∀ X, H.nx ≤ X → H.g X = .no) : HR ⟨0, m, F⟩ H [] := ⟨rfl, hF, hw, fun b p h => by simp at h, fun b b' p p' X h => by simp at h⟩
/-- Lent for a call that yields numbers alone. -/
theorem call_lend {P : Program} {f : FuncId} {args args' : List PV} {v : PV} {d : Nat} (hr : PV.resL B d args = some args') (hc : Pu P f args' [] v) (hf : v.flat = true) : PCall P f B args B v [] := by
  intro L H avs hR ha
  have hlt : ∀ X, Ow L B X → X < H.nx := fun X hX => Ow_lt hR hX
  have h1 := (res_ok hR (F0 := fun X => X < H.nx) hR.fl hlt d).2 args ha hr
  obtain ⟨a, H', L', h2, h3, h4, h5, h6⟩ := hc ⟨0, fun _ => .sn, fun X => X < H.nx⟩ H avs (HR_nil (fun _ h => h) hR.wf) (RcL.p _ h1)
  have hg : ∀ X, X < H.nx → H'.g X = H.g X := fun X hX => h3.k.st.g X hX
  have hn := h3.k.st.nx
  refine ⟨a, H', L, h2, ⟨⟨⟨hn, fun _ h => h, fun X hX => hg X (hR.fl X hX)⟩, Nat.le_refl _, fun _ _ => rfl⟩, fun X hX _ _ => hg X hX, fun X hX => .inl hX, fun X hX => .inl hX⟩, HR_ext hR hn h4.wf fun X hX _ => hg X hX, Rp_flat v hf h5, fun X hX _ => hg X hX⟩
def PB.froz : PB → Bool
  | .fv _ => true
  | .fz _ _ => true
  | _ => false
/-- All that is one's own, taken away: for what is resolved of what stays. -/
def offB (B : List PB) : List PB := B.map fun p => if p.froz then p else .no
theorem offB_get {b : Nat} {p : PB} (h : (offB B)[b]? = some p) : (p.froz = true ∧ B[b]? = some p) ∨ p = .no := by
  simp only [offB, List.getElem?_map, Option.map_eq_some_iff] at h
  obtain ⟨q, h1, h2⟩ := h
  split at h2
  · rename_i hq; subst h2; exact .inl ⟨hq, h1⟩
  · exact .inr h2.symm
theorem HR_off (h : HR L H B) : HR L H (offB B) := by
  refine ⟨by rw [h.n]; simp [offB], h.fl, h.wf, fun b p hb => ?_, fun b b' p p' X hb hb' hp => ?_⟩
  · rcases offB_get hb with ⟨_, h1⟩ | rfl
    · exact h.bk b p h1
    · trivial
  · rcases offB_get hb with ⟨h1, _⟩ | rfl
    · cases p <;> simp [PB.froz, PB.own] at h1 hp
    · simp [PB.own] at hp
theorem Ow_off {X : Nat} (h : Ow L (offB B) X) : False := by
  obtain ⟨b, p, h1, h2, _⟩ := h
  rcases offB_get h1 with ⟨h3, _⟩ | rfl
  · cases p <;> simp [PB.froz, PB.own] at h3 h2
  · simp [PB.own] at h2
/-- A call of closed values: what it gives along has names of its own. -/
theorem call_pure {P : Program} {f : FuncId} {args args' : List PV} {v : PV} {B1 : List PB} {d : Nat} (hr : PV.resL (offB B) d args = some args') (hc : Pu P f args' B1 v) :
    PCall P f B args (B ++ B1.map (PB.ren (· + B.length))) (v.ren (· + B.length)) [] := by
  intro L H avs hR ha
  have h1 := (res_ok (HR_off hR) (F0 := L.F) (fun _ h => h) (fun X hX => (Ow_off hX).elim) d).2 args ha hr
  obtain ⟨a, H', L1, h2, h3, h4, h5, h6⟩ := hc ⟨0, fun _ => .sn, L.F⟩ H avs (HR_nil hR.fl hR.wf) (RcL.p _ h1)
  have hg : ∀ X, X < H.nx → H'.g X = H.g X := fun X hX => h6 X hX fun b hb => by simp at hb
  have hn := h3.k.st.nx
  have hLn := hR.n
  have hL1 := h4.n
  let L' : Lk := ⟨L.n + L1.n, fun b => if b < L.n then L.m b else L1.m (b - L.n), L1.F⟩
  have hF : ∀ X, L1.F X → L.F X ∨ H.nx ≤ X := fun X hX => by
    rcases h3.fF X hX with h | ⟨b, p, h, _⟩ | h
    · exact .inl h
    · simp at h
    · exact .inr h
  have hO1 : ∀ X, Ow L1 B1 X → H.nx ≤ X := fun X hX => by
    rcases h3.fO X hX with ⟨b, p, h, _⟩ | h
    · simp at h
    · exact h
  have k : Keep L H L' H' := ⟨⟨hn, h3.k.st.sF, h3.k.st.g⟩, Nat.le_add_right _ _, fun b hb => by simp only [L']; rw [if_pos hb]⟩
  have sub : Sub (· + B.length) L1 L' := ⟨fun b hb => by simp only [L']; omega, fun b hb => by simp only [L']; rw [if_neg (by omega)]; congr 1; omega, fun X => Iff.rfl⟩
  have get : ∀ b q, (B ++ B1.map (PB.ren (· + B.length)))[b]? = some q → (b < L.n ∧ B[b]? = some q) ∨ (∃ q0, L.n ≤ b ∧ B1[b - L.n]? = some q0 ∧ q = q0.ren (· + B.length)) := by
    intro b q hq
    by_cases hlt : b < B.length
    · rw [List.getElem?_append_left hlt] at hq; exact .inl ⟨by omega, hq⟩
    · rw [List.getElem?_append_right (by omega), List.getElem?_map, Option.map_eq_some_iff] at hq
      obtain ⟨q0, h7, h8⟩ := hq
      exact .inr ⟨q0, by omega, by rw [hLn]; exact h7, h8.symm⟩
  have rown : ∀ q : PB, (q.ren (· + B.length)).own = q.own := fun q => by cases q <;> rfl
  refine ⟨a, H', L', h2, ⟨k, fun X hX _ _ => hg X hX, fun X hX => (hF X hX).imp id .inr, fun X hX => ?_⟩, ⟨by simp [L', hLn, hL1], h4.fl, h4.wf, fun b q hq => ?_, fun b b' q q' X hq hq' ho ho' hX hX' hFX => ?_⟩, Rp.ren sub v h5, fun X hX _ => hg X hX⟩
  · obtain ⟨b, q, h7, h8, h9, h10⟩ := hX
    rcases get b q h7 with ⟨hb, hq⟩ | ⟨q0, hb, hq, rfl⟩
    · simp only [L', if_pos hb] at h9
      exact .inl ⟨b, q, hq, h8, h9, fun h => h10 (h3.k.st.sF X h)⟩
    · simp only [L', if_neg (Nat.not_lt.2 hb)] at h9
      rw [rown] at h8
      exact .inr (hO1 X ⟨_, q0, hq, h8, h9, h10⟩)
  · rcases get b q hq with ⟨hb, hq2⟩ | ⟨q0, hb, hq2, rfl⟩
    · simp only [L', if_pos hb]
      refine (hR.bk b q hq2).keep k fun X ho hX hFX => ?_
      have := Ow_lt hR ⟨b, q, hq2, ho, hX, hFX⟩
      exact ⟨hg X this, fun h => (hF X h).elim hFX fun h => by omega⟩
    · simp only [L', if_neg (Nat.not_lt.2 hb)]
      exact BkR.ren sub (h4.bk _ q0 hq2)
  · rcases get b q hq with ⟨hb, hq2⟩ | ⟨q0, hb, hq2, rfl⟩ <;> rcases get b' q' hq' with ⟨hb', hq2'⟩ | ⟨q0', hb', hq2', rfl⟩
    · simp only [L', if_pos hb] at hX; simp only [L', if_pos hb'] at hX'
      exact hR.dj b b' q q' X hq2 hq2' ho ho' hX hX' fun h => hFX (h3.k.st.sF X h)
    · exfalso
      simp only [L', if_pos hb] at hX; simp only [L', if_neg (Nat.not_lt.2 hb')] at hX'
      have h7 := Ow_lt hR ⟨b, q, hq2, ho, hX, fun h => hFX (h3.k.st.sF X h)⟩
      rw [rown] at ho'
      have h8 := hO1 X ⟨_, q0', hq2', ho', hX', hFX⟩
      omega
    · exfalso
      simp only [L', if_neg (Nat.not_lt.2 hb)] at hX; simp only [L', if_pos hb'] at hX'
      have h7 := Ow_lt hR ⟨b', q', hq2', ho', hX', fun h => hFX (h3.k.st.sF X h)⟩
      rw [rown] at ho
      have h8 := hO1 X ⟨_, q0, hq2, ho, hX, hFX⟩
      omega
    · simp only [L', if_neg (Nat.not_lt.2 hb)] at hX; simp only [L', if_neg (Nat.not_lt.2 hb')] at hX'
      rw [rown] at ho ho'
      have := h4.dj _ _ q0 q0' X hq2 hq2' ho ho' hX hX' hFX
      omega
end
end Go.AX
