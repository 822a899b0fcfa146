/- AY, part J: code over named blocks: what is to be shown, and the steps that run by themselves. -/
import Derived.Test.YtjmknbbipadjbaaAyI
set_option linter.unusedSimpArgs false
set_option linter.unusedVariables false
namespace Go.AX
open Go

abbrev PE0 := Nat → PV
def PE0.st (E : PE0) (d : Nat) (v : PV) : PE0 := fun i => if i = d then v else E i
def PE0.put (E : PE0) : Option Nat → PV → PE0
  | some d, v => E.st d v
  | none, _ => E
theorem ER_put {L : Lk} {H : AH} {E : PE0} {Ea : Env} {d : Option Nat} {v : PV} {a : AV} (h : ER L H E Ea) (hv : Rp L H v a) : ER L H (E.put d v) (Ea.put d a) := by
  cases d with
  | none => exact h
  | some d =>
    intro t
    simp only [PE0.put, PE0.st, Env.put, Env.st]
    split
    · exact hv
    · exact h t
theorem ER.mono {L L' : Lk} {H H' : AH} {E : PE0} {Ea : Env} (h : ER L H E Ea) (k : Keep L H L' H') : ER L' H' E Ea := fun t => Rp.mono k _ (h t)

/-- How the heap goes on, K names staying where they lie. -/
structure Fw (K : Nat) (L : Lk) (H : AH) (B : List PB) (L' : Lk) (H' : AH) (B' : List PB) : Prop where
  st : Stay L.F H L'.F H'
  m : ∀ b, b < K → L'.m b = L.m b
  fr : ∀ X, X < H.nx → ¬ L.F X → ¬ Ow L B X → H'.g X = H.g X
  fF : ∀ X, L'.F X → L.F X ∨ Ow L B X ∨ H.nx ≤ X
  fO : ∀ X, Ow L' B' X → Ow L B X ∨ H.nx ≤ X
theorem Fw.refl {K : Nat} {L : Lk} {H : AH} {B : List PB} : Fw K L H B L H B := ⟨.refl, fun _ _ => rfl, fun _ _ _ _ => rfl, fun _ h => .inl h, fun _ h => .inl h⟩
theorem Fw.trans {K : Nat} {L L1 L2 : Lk} {H H1 H2 : AH} {B B1 B2 : List PB} (a : Fw K L H B L1 H1 B1) (b : Fw K L1 H1 B1 L2 H2 B2) : Fw K L H B L2 H2 B2 := by
  have hn := a.st.nx
  refine ⟨a.st.trans b.st, fun x hx => (b.m x hx).trans (a.m x hx), fun X h1 h2 h3 => ?_, fun X h => ?_, fun X h => ?_⟩
  · rw [b.fr X (Nat.lt_of_lt_of_le h1 hn) (fun h => ?_) (fun h => ?_)]
    · exact a.fr X h1 h2 h3
    · rcases a.fF X h with h | h | h
      · exact h2 h
      · exact h3 h
      · omega
    · rcases a.fO X h with h | h
      · exact h3 h
      · omega
  · rcases b.fF X h with h | h | h
    · exact a.fF X h
    · exact .inr (a.fO X h)
    · exact .inr (.inr (Nat.le_trans hn h))
  · rcases b.fO X h with h | h
    · exact a.fO X h
    · exact .inr (Nat.le_trans hn h)
theorem Ev.fw {K : Nat} {L L' : Lk} {H H' : AH} {B B' : List PB} (h : Ev L H B L' H' B') (hK : K ≤ L.n) : Fw K L H B L' H' B' := ⟨h.k.st, fun b hb => h.k.m b (by omega), h.fr, h.fF, h.fO⟩

/-- Where code ends: in a value (none), or in a panic. -/
abbrev PEnd := Option PV → PE0 → List PB → Prop
/-- What is to be shown of code: from here on it ends as R says, wherever the names lie. -/
def Y (P : Program) (K : Nat) (R : PEnd) (k : List It) (E : PE0) (B : List PB) : Prop :=
  ∀ L0 H0 B0 (Rx : Fin), (∀ L H E' B' Ea, Fw K L0 H0 B0 L H B' → K ≤ L.n → HR L H B' → ER L H E' Ea → R none E' B' → Rx .ret Ea H []) →
    (∀ L H E' B' Ea v a, Fw K L0 H0 B0 L H B' → K ≤ L.n → HR L H B' → ER L H E' Ea → Rp L H v a → R (some v) E' B' → Rx (.pan [⟨a, false⟩]) Ea H []) →
    ∀ L H Ea, Fw K L0 H0 B0 L H B → K ≤ L.n → HR L H B → ER L H E Ea → X P Rx k Ea H []

section
variable {P : Program} {K : Nat} {R : PEnd} {k : List It} {E : PE0} {B : List PB}
/-- Steps that turn the continuation alone. -/
theorem Y_same {k' : List It} (h : ∀ Rx Ea H, X P Rx k Ea H [] = X P Rx k' Ea H []) (hy : Y P K R k' E B) : Y P K R k E B := fun L0 H0 B0 Rx r1 r2 L H Ea f hK hR hE => by
  rw [h]; exact hy L0 H0 B0 Rx r1 r2 L H Ea f hK hR hE
theorem X_exit {R : Fin} {i : Nat} {k k' : List It} {E : Env} {H : AH} {ds : List ADef} (h : itExit i k = some k') (hx : X P R k' E H ds) : X P R (.c (.exit i) :: k) E H ds := by
  obtain ⟨n, hx⟩ := hx
  exact ⟨n + 1, by simp only [XF]; exact ⟨k', h, hx⟩⟩
theorem X_pan {R : Fin} {d : Option Nat} {x : Opd} {l : List ROper} {E : Env} {H : AH} {ds : List ADef} {t : TypeId} {v : AV} (h : ev E x = .fc t v) (hr : R (.pan [⟨.fc t v, false⟩]) E H ds) : X P R (.o (⟨d, none, .pan x⟩ :: l) :: k) E H ds := by
  refine ⟨1, ?_⟩
  simp only [XF, gwant, Option.some.injEq, exists_eq_left', if_true]
  exact ⟨t, v, h, hr⟩
theorem Y_op {d : Option Nat} {vo : VOp} {l : List ROper} {v : PV} {B' : List PB} (h : pop vo E B = some (v, B')) (hy : Y P K R (.o l :: k) (E.put d v) B') : Y P K R (.o (⟨d, none, .v vo⟩ :: l) :: k) E B := by
  intro L0 H0 B0 Rx r1 r2 L H Ea f hK hR hE
  obtain ⟨c, H', L', d'⟩ := pop_ok hR hE h
  rw [X_ov, d'.eq, AtV_some]
  exact hy L0 H0 B0 Rx r1 r2 L' H' _ (f.trans (d'.ev.fw hK)) (Nat.le_trans hK d'.ev.k.n) d'.hr (ER_put (hE.mono d'.ev.k) d'.rp)
theorem Y_call {d : Option Nat} {f : FuncId} {args : List Opd} {l : List ROper} {v : PV} {B' : List PB} {T : List Nat} (h : PCall P f B (args.map (pev E)) B' v T) (hy : Y P K R (.o l :: k) (E.put d v) B') : Y P K R (.o (⟨d, none, .call f args⟩ :: l) :: k) E B := by
  intro L0 H0 B0 Rx r1 r2 L H Ea fw hK hR hE
  obtain ⟨a, H', L', h1, h2, h3, h4, _⟩ := h L H _ hR (RpL_map hE args)
  rw [X_oc]
  exact ⟨_, H', h1, hy L0 H0 B0 Rx r1 r2 L' H' _ (fw.trans (h2.fw hK)) (Nat.le_trans hK h2.k.n) h3 (ER_put (hE.mono h2.k) h4)⟩
/-- A function that has a body. -/
def Bd (P : Program) (f : FuncId) : Prop := ∃ fn, P.funcs[f]? = some fn ∧ (fn.body.isSome && !(fn.name == "runtime.NumGoroutine")) = true
theorem RpL_app' {L : Lk} {H : AH} {l m : List PV} {as bs : List AV} (h : RpL L H l as) (h' : RpL L H m bs) : RpL L H (l ++ m) (as ++ bs) := h.app h'
theorem X_calv {R : Fin} {d : Option Nat} {x : Opd} {args : List Opd} {l : List ROper} {E : Env} {H H' : AH} {ds : List ADef} {f : FuncId} {as : List AV} {v : AV} (hf : funOf (vals E args) (ev E x) = some (f, as)) (hb : Bd P f) (hc : CallT P f as H (.ret v) H')
    (hx : X P R (.o l :: k) (E.put d v) H' ds) : X P R (.o (⟨d, none, .calv x args⟩ :: l) :: k) E H ds := by
  obtain ⟨n, hx⟩ := hx
  refine ⟨n + 1, ?_⟩
  simp only [XF, gwant, Option.some.injEq, exists_eq_left', if_true]
  exact ⟨f, as, hf, hb, _, H', hc, hx⟩
theorem Y_calv {d : Option Nat} {x : Opd} {f : FuncId} {pa ca : List PV} {args : List Opd} {l : List ROper} {v : PV} {B' : List PB} {T : List Nat} (hx : pev E x = .fn (.func f) pa ca) (hb : Bd P f) (h : PCall P f B (pa ++ args.map (pev E) ++ ca) B' v T) (hy : Y P K R (.o l :: k) (E.put d v) B') :
    Y P K R (.o (⟨d, none, .calv x args⟩ :: l) :: k) E B := by
  intro L0 H0 B0 Rx r1 r2 L H Ea fw hK hR hE
  have hr := Rp_ev hE x
  rw [hx] at hr
  obtain ⟨p', c', h5, h6, h7⟩ := hr
  obtain ⟨a, H', L', h1, h2, h3, h4, _⟩ := h L H (p' ++ vals Ea args ++ c') hR ((h6.app (RpL_map hE args)).app h7)
  exact X_calv (by rw [h5]; rfl) hb h1 (hy L0 H0 B0 Rx r1 r2 L' H' _ (fw.trans (h2.fw hK)) (Nat.le_trans hK h2.k.n) h3 (ER_put (hE.mono h2.k) h4))
theorem Y_grd {d : Option Nat} {t : Nat} {b c : Bool} {o : ROp} {l : List ROper} (ht : E t = .bo c) (h1 : c = b → Y P K R (.o (⟨d, none, o⟩ :: l) :: k) E B) (h2 : c ≠ b → Y P K R (.o l :: k) (E.put d (.tu [])) B) : Y P K R (.o (⟨d, some (t, b), o⟩ :: l) :: k) E B := by
  intro L0 H0 B0 Rx r1 r2 L H Ea fw hK hR hE
  have hr := hE t
  rw [ht] at hr
  simp only [Rp] at hr
  refine X_og ⟨c, hr, ?_⟩
  by_cases hc : c = b
  · rw [if_pos hc]; exact h1 hc L0 H0 B0 Rx r1 r2 L H Ea fw hK hR hE
  · rw [if_neg hc]; exact h2 hc L0 H0 B0 Rx r1 r2 L H _ fw hK hR (ER_put hE ⟨[], rfl, rfl⟩)
theorem Y_grt {d : Option Nat} {t : Nat} {b : Bool} {o : ROp} {l : List ROper} (ht : E t = .tu []) (h2 : Y P K R (.o l :: k) (E.put d (.tu [])) B) : Y P K R (.o (⟨d, some (t, b), o⟩ :: l) :: k) E B := by
  intro L0 H0 B0 Rx r1 r2 L H Ea fw hK hR hE
  have hr := hE t
  rw [ht] at hr
  obtain ⟨l', hr, h0⟩ := hr
  simp only [RpL] at h0; subst h0
  exact X_ogt hr (h2 L0 H0 B0 Rx r1 r2 L H _ fw hK hR (ER_put hE ⟨[], rfl, rfl⟩))
theorem Y_cnd {c : Opd} {a b : RC} {t : Bool} (ht : pev E c = .bo t) (h1 : t = true → Y P K R (.c a :: k) E B) (h2 : t = false → Y P K R (.c b :: k) E B) : Y P K R (.c (.cond c a b) :: k) E B := by
  intro L0 H0 B0 Rx r1 r2 L H Ea fw hK hR hE
  have hr := Rp_ev hE c
  rw [ht] at hr
  simp only [Rp] at hr
  rw [X_cond, hr]
  cases t
  · rw [AtB_f]; exact h2 rfl L0 H0 B0 Rx r1 r2 L H Ea fw hK hR hE
  · rw [AtB_t]; exact h1 rfl L0 H0 B0 Rx r1 r2 L H Ea fw hK hR hE
theorem Y_ret (h : R none E B) : Y P K R (.c .ret :: k) E B := fun L0 H0 B0 Rx r1 r2 L H Ea fw hK hR hE => by rw [X_ret]; exact r1 L H E B Ea fw hK hR hE h
theorem Y_nil (h : R none E B) : Y P K R [] E B := fun L0 H0 B0 Rx r1 r2 L H Ea fw hK hR hE => by rw [X_nil]; exact r1 L H E B Ea fw hK hR hE h
theorem Y_pan {d : Option Nat} {x : Opd} {l : List ROper} {t : TypeId} {v : PV} (hx : pev E x = .fc t v) (h : R (some (.fc t v)) E B) : Y P K R (.o (⟨d, none, .pan x⟩ :: l) :: k) E B := by
  intro L0 H0 B0 Rx r1 r2 L H Ea fw hK hR hE
  have hr := Rp_ev hE x
  rw [hx] at hr
  have hr' := hr
  obtain ⟨a, h5, h6⟩ := hr
  rw [h5] at hr'
  exact X_pan h5 (r2 L H E B Ea _ _ fw hK hR hE hr' h)
theorem Y_exit {i : Nat} {k' : List It} (h : itExit i k = some k') (hy : Y P K R k' E B) : Y P K R (.c (.exit i) :: k) E B := fun L0 H0 B0 Rx r1 r2 L H Ea fw hK hR hE => X_exit h (hy L0 H0 B0 Rx r1 r2 L H Ea fw hK hR hE)

/-! ### Steps that run by themselves -/
abbrev Zn := List It → PE0 → List PB → Prop
def ZB (z : Zn) (v : PV) (a b : RC) (k : List It) (E : PE0) (B : List PB) : Prop := match v with | .bo true => z (.c a :: k) E B | .bo false => z (.c b :: k) E B | _ => False
def ZV (z : Zn) (r : Option (PV × List PB)) (d : Option Nat) (l : List ROper) (k : List It) (E : PE0) : Prop := match r with | some (v, B') => z (.o l :: k) (E.put d v) B' | none => False
def ZX (z : Zn) (r : Option (List It)) (E : PE0) (B : List PB) : Prop := match r with | some k => z k E B | none => False
def ZP (R : PEnd) (v : PV) (E : PE0) (B : List PB) : Prop := match v with | .fc t u => R (some (.fc t u)) E B | _ => False
/-- One operation of a region. -/
def ZO (P : Program) (K : Nat) (R : PEnd) (z : Zn) (d : Option Nat) (l : List ROper) (k : List It) (E : PE0) (B : List PB) : ROp → Prop
  | .v vo => ZV z (pop vo E B) d l k E
  | .pan x => ZP R (pev E x) E B
  | o => Y P K R (.o (⟨d, none, o⟩ :: l) :: k) E B
def ZG (P : Program) (K : Nat) (R : PEnd) (z : Zn) (v : PV) (b : Bool) (d : Option Nat) (o : ROp) (l : List ROper) (k : List It) (E : PE0) (B : List PB) : Prop :=
  match v with
  | .bo c => if c = b then ZO P K R z d l k E B o else z (.o l :: k) (E.put d (.tu [])) B
  | .tu [] => z (.o l :: k) (E.put d (.tu [])) B
  | _ => False
def Z (P : Program) (K : Nat) (R : PEnd) : Nat → List It → PE0 → List PB → Prop
  | 0, k, E, B => Y P K R k E B
  | n + 1, [], E, B => R none E B
  | n + 1, .blk _ :: k, E, B => Z P K R n k E B
  | n + 1, .lp c :: k, E, B => Y P K R (.lp c :: k) E B
  | n + 1, .o [] :: k, E, B => Z P K R n k E B
  | n + 1, .o (⟨d, none, o⟩ :: l) :: k, E, B => ZO P K R (Z P K R n) d l k E B o
  | n + 1, .o (⟨d, some (t, b), o⟩ :: l) :: k, E, B => ZG P K R (Z P K R n) (E t) b d o l k E B
  | n + 1, .c .skip :: k, E, B => Z P K R n k E B
  | n + 1, .c (.reg l) :: k, E, B => Z P K R n (.o l :: k) E B
  | n + 1, .c (.regd L) :: k, E, B => Y P K R (.c (.regd L) :: k) E B
  | n + 1, .c (.seq a b) :: k, E, B => Z P K R n (.c a :: .c b :: k) E B
  | n + 1, .c (.cond c a b) :: k, E, B => ZB (Z P K R n) (pev E c) a b k E B
  | n + 1, .c (.block i a) :: k, E, B => Z P K R n (.c a :: .blk i :: k) E B
  | n + 1, .c (.loop a) :: k, E, B => Y P K R (.c (.loop a) :: k) E B
  | n + 1, .c (.exit i) :: k, E, B => ZX (Z P K R n) (itExit i k) E B
  | n + 1, .c .ret :: k, E, B => R none E B
theorem ZO_Y {z : Zn} {l : List ROper} {d : Option Nat} {o : ROp} (hq : ∀ k E B, z k E B → Y P K R k E B) (h : ZO P K R z d l k E B o) : Y P K R (.o (⟨d, none, o⟩ :: l) :: k) E B := by
  unfold ZO at h
  split at h
  · unfold ZV at h
    split at h
    · rename_i v B' he
      exact Y_op he (hq _ _ _ h)
    · exact h.elim
  · unfold ZP at h
    split at h
    · rename_i t u he
      exact Y_pan he h
    · exact h.elim
  · exact h
theorem Y_go : ∀ (n : Nat) {k : List It} {E : PE0} {B : List PB}, Z P K R n k E B → Y P K R k E B := by
  intro n
  induction n with
  | zero => intro k E B h; exact h
  | succ n ih =>
    intro k E B h
    match k, h with
    | [], h => exact Y_nil h
    | .blk _ :: k, h => exact Y_same (fun Rx Ea H => X_blk) (ih h)
    | .lp c :: k, h => exact h
    | .o [] :: k, h => exact Y_same (fun Rx Ea H => X_onil) (ih h)
    | .o (⟨d, none, o⟩ :: l) :: k, h => exact ZO_Y (fun _ _ _ => ih) h
    | .o (⟨d, some (t, b), o⟩ :: l) :: k, h =>
      unfold Z ZG at h
      split at h
      · rename_i c hc
        refine Y_grd hc (fun e => ?_) (fun e => ?_)
        · rw [if_pos e] at h; exact ZO_Y (fun _ _ _ => ih) h
        · rw [if_neg e] at h; exact ih h
      · rename_i hc; exact Y_grt hc (ih h)
      · exact h.elim
    | .c .skip :: k, h => exact Y_same (fun Rx Ea H => X_skip) (ih h)
    | .c (.reg l) :: k, h => exact Y_same (fun Rx Ea H => X_reg) (ih h)
    | .c (.regd L) :: k, h => exact h
    | .c (.seq a b) :: k, h => exact Y_same (fun Rx Ea H => X_seq) (ih h)
    | .c (.cond c a b) :: k, h =>
      unfold Z ZB at h
      split at h
      · rename_i hc; exact Y_cnd hc (fun _ => ih h) (fun e => by cases e)
      · rename_i hc; exact Y_cnd hc (fun e => by cases e) (fun _ => ih h)
      · exact h.elim
    | .c (.block i a) :: k, h => exact Y_same (fun Rx Ea H => X_block) (ih h)
    | .c (.loop a) :: k, h => exact h
    | .c (.exit i) :: k, h =>
      unfold Z ZX at h
      split at h
      · rename_i k' he; exact Y_exit he (ih h)
      · exact h.elim
    | .c .ret :: k, h => exact Y_ret h

/-! ### Weaker states -/
/-- A state, told with less. -/
def Wk (K : Nat) (E : PE0) (B : List PB) (E' : PE0) (B' : List PB) : Prop :=
  ∀ L H Ea, K ≤ L.n → HR L H B → ER L H E Ea → ∃ L', K ≤ L'.n ∧ HR L' H B' ∧ ER L' H E' Ea ∧ (∀ b, b < K → L'.m b = L.m b) ∧ (∀ X, L.F X → L'.F X) ∧ (∀ X, L'.F X → L.F X ∨ Ow L B X) ∧ (∀ X, Ow L' B' X → Ow L B X)
theorem Y_wk {E' : PE0} {B' : List PB} (hw : Wk K E B E' B') (hy : Y P K R k E' B') : Y P K R k E B := by
  intro L0 H0 B0 Rx r1 r2 L H Ea fw hK hR hE
  obtain ⟨L', h1, h2, h3, h4, h5, h6, h7⟩ := hw L H Ea hK hR hE
  have f' : Fw K L H B L' H B' := ⟨⟨Nat.le_refl _, h5, fun _ _ => rfl⟩, h4, fun _ _ _ _ => rfl, fun X hX => (h6 X hX).imp id .inl, fun X hX => .inl (h7 X hX)⟩
  exact hy L0 H0 B0 Rx r1 r2 L' H Ea (fw.trans f') h1 h2 h3
theorem Wk.trans {E1 E2 : PE0} {B1 B2 : List PB} (a : Wk K E B E1 B1) (b : Wk K E1 B1 E2 B2) : Wk K E B E2 B2 := by
  intro L H Ea hK hR hE
  obtain ⟨L1, h1, h2, h3, h4, h5, h6, h7⟩ := a L H Ea hK hR hE
  obtain ⟨L2, g1, g2, g3, g4, g5, g6, g7⟩ := b L1 H Ea h1 h2 h3
  exact ⟨L2, g1, g2, g3, fun x hx => (g4 x hx).trans (h4 x hx), fun X hX => g5 X (h5 X hX), fun X hX => (g6 X hX).elim (h6 X) fun h => .inr (h7 X h), fun X hX => h7 X (g7 X hX)⟩
/-- A loop: what it goes round with, told by a state that each round begins with. -/
theorem Y_loop {σ : Type} (S : σ → PE0 × List PB) (μ : σ → Nat) {a : RC} (s : σ) (h0 : Wk K E B (S s).1 (S s).2)
    (step : ∀ s, (∀ s' E' B', μ s' < μ s → Wk K E' B' (S s').1 (S s').2 → Y P K R (.lp a :: k) E' B') → Y P K R (.c a :: .lp a :: k) (S s).1 (S s).2) : Y P K R (.c (.loop a) :: k) E B := by
  have key : ∀ n s, μ s < n → Y P K R (.c a :: .lp a :: k) (S s).1 (S s).2 := by
    intro n
    induction n with
    | zero => intro s h; omega
    | succ n ih =>
      intro s h
      exact step s fun s' E' B' hlt hw => Y_same (fun Rx Ea H => X_lp) (Y_wk hw (ih s' (by omega)))
  exact Y_same (fun Rx Ea H => X_loop) (Y_wk h0 (key _ s (Nat.lt_succ_self _)))
def lv : List (Nat × PV) → PE0
  | [] => fun _ => .dd
  | (t, v) :: r => (lv r).st t v
/-- Renamed, and what isn't named forgotten. -/
theorem Wk_ren (r : Nat → Nat) {E' : PE0} {B' : List PB} (hK : K ≤ B'.length) (hr : ∀ b, b < K → r b = b) (hi : ∀ b c, b < B'.length → c < B'.length → r b = r c → b = c)
    (hB : ∀ b p, B'[b]? = some p → B[r b]? = some (p.ren r) ∧ p.bel B'.length = true) (hE : ∀ t, E' t = .dd ∨ (E t = (E' t).ren r ∧ (E' t).bel B'.length = true)) : Wk K E B E' B' := by
  intro L H Ea hKL hR hEr
  have hn := hR.n
  let L' : Lk := ⟨B'.length, fun b => L.m (r b), L.F⟩
  have hlt : ∀ b, b < B'.length → r b < B.length := fun b hb => by
    obtain ⟨h1, _⟩ := hB b _ (List.getElem?_eq_getElem hb)
    exact (List.getElem?_eq_some_iff.1 h1).1
  have s : Sub r L' L := ⟨fun b hb => by rw [hn]; exact hlt b hb, fun b hb => rfl, fun X => Iff.rfl⟩
  have rown : ∀ q : PB, (q.ren r).own = q.own := fun q => by cases q <;> rfl
  refine ⟨L', hK, ⟨rfl, hR.fl, hR.wf, fun b p hb => ?_, fun b b' p p' X hb hb' ho ho' hX hX' hF => ?_⟩, fun t => ?_, fun b hb => by simp only [L', hr b hb], fun X h => h, fun X h => .inl h, fun X ⟨b, p, h1, h2, h3, h4⟩ => ?_⟩
  · obtain ⟨h1, h2⟩ := hB b p hb
    exact BkR.unren s h2 (hR.bk _ _ h1)
  · have h1 := (hB b p hb).1
    have h2 := (hB b' p' hb').1
    have := hR.dj _ _ _ _ X h1 h2 (by rw [rown]; exact ho) (by rw [rown]; exact ho') hX hX' hF
    exact hi b b' (List.getElem?_eq_some_iff.1 hb).1 (List.getElem?_eq_some_iff.1 hb').1 this
  · rcases hE t with h | ⟨h1, h2⟩
    · rw [h]; simp only [Rp]
    · have := hEr t
      rw [h1] at this
      exact Rp.unren s _ h2 this
  · exact ⟨r b, _, (hB b p h1).1, by rw [rown]; exact h2, h3, h4⟩

/-! ### Functions -/
def prv (E : PE0) (B : List PB) : List RRes → Option (List PV)
  | [] => some []
  | .t t :: r => (prv E B r).map (E t :: ·)
  | .c t n :: r => (pld n B (E t)).bind fun v => (prv E B r).map (v :: ·)
  | .c1 t :: r => (pld1 B (E t)).bind fun v => (prv E B r).map (v :: ·)
def ptup : List PV → PV
  | [v] => v
  | l => .tu l
theorem prv_ok {L : Lk} {H : AH} {Ea : Env} (hR : HR L H B) (hE : ER L H E Ea) : ∀ {rs : List RRes} {vs : List PV}, prv E B rs = some vs → ∃ as, rvals Ea H rs = some as ∧ RpL L H vs as
  | [], vs, h => by
    simp only [prv, Option.some.injEq] at h; subst h
    exact ⟨[], rfl, rfl⟩
  | .t t :: r, vs, h => by
    simp only [prv, Option.map_eq_some_iff] at h
    obtain ⟨vs', h1, rfl⟩ := h
    obtain ⟨as, h2, h3⟩ := prv_ok hR hE h1
    exact ⟨Ea t :: as, by simp only [rvals, h2, Option.map_some], ⟨_, _, rfl, hE t, h3⟩⟩
  | .c t n :: r, vs, h => by
    simp only [prv, Option.bind_eq_some_iff, Option.map_eq_some_iff] at h
    obtain ⟨v, hv, vs', h1, rfl⟩ := h
    obtain ⟨as, h2, h3⟩ := prv_ok hR hE h1
    obtain ⟨c, h4, h5⟩ := pld_ok hR (hE t) hv
    exact ⟨c :: as, by simp only [rvals, h2, h4, Option.map_some, Option.bind_some], ⟨_, _, rfl, h5, h3⟩⟩
  | .c1 t :: r, vs, h => by
    simp only [prv, Option.bind_eq_some_iff, Option.map_eq_some_iff] at h
    obtain ⟨v, hv, vs', h1, rfl⟩ := h
    obtain ⟨as, h2, h3⟩ := prv_ok hR hE h1
    obtain ⟨c, h4, h5⟩ := pld1_ok hR (hE t) hv
    exact ⟨c :: as, by simp only [rvals, h2, h4, Option.map_some, Option.bind_some], ⟨_, _, rfl, h5, h3⟩⟩
theorem ptup_ok {L : Lk} {H : AH} {vs : List PV} {as : List AV} (h : RpL L H vs as) : Rp L H (ptup vs) (rtup as) := by
  cases vs with
  | nil => simp only [RpL] at h; subst h; exact ⟨[], rfl, rfl⟩
  | cons v r =>
    obtain ⟨a, l', rfl, h2, h3⟩ := h
    cases r with
    | nil => simp only [RpL] at h3; subst h3; exact h2
    | cons u r =>
      have h3' := h3
      obtain ⟨b, l'', rfl, h4, h5⟩ := h3
      exact ⟨_, rfl, a, _, rfl, h2, h3'⟩
/-- A value among blocks, told with less. -/
def Wv (K : Nat) (B : List PB) (u : PV) (B1 : List PB) (v : PV) : Prop :=
  ∀ L H a, K ≤ L.n → HR L H B → Rp L H u a → ∃ L', K ≤ L'.n ∧ HR L' H B1 ∧ Rp L' H v a ∧ (∀ b, b < K → L'.m b = L.m b) ∧ (∀ X, L.F X → L'.F X) ∧ (∀ X, L'.F X → L.F X ∨ Ow L B X) ∧ (∀ X, Ow L' B1 X → Ow L B X)
theorem Wv_cl {u v : PV} (d : Nat) (h : u.res B d = some v) : Wv 0 B u [] v := by
  intro L H a hK hR hu
  have hF : ∀ X, L.F X ∨ Ow L B X → X < H.nx := fun X hX => hX.elim (hR.fl X) (Ow_lt hR)
  refine ⟨⟨0, L.m, fun X => L.F X ∨ Ow L B X⟩, Nat.le_refl _, HR_nil hF hR.wf, Rc.p _ ((res_ok hR (fun _ h => .inl h) (fun _ h => .inr h) d).1 u hu h), fun b hb => by omega, fun X h => .inl h, fun X h => h, fun X ⟨b, p, h1, _⟩ => by simp at h1⟩
theorem Wv_ren (r : Nat → Nat) {u v : PV} {B1 : List PB} (hK : K ≤ B1.length) (hr : ∀ b, b < K → r b = b) (hi : ∀ b c, b < B1.length → c < B1.length → r b = r c → b = c)
    (hB : ∀ b p, B1[b]? = some p → B[r b]? = some (p.ren r) ∧ p.bel B1.length = true) (hu : u = v.ren r) (hv : v.bel B1.length = true) : Wv K B u B1 v := by
  intro L H a hKL hR hua
  have := Wk_ren (K := K) (E := fun t => if t = 0 then u else .dd) (E' := fun t => if t = 0 then v else .dd) r hK hr hi hB (fun t => by
    by_cases ht : t = 0
    · subst ht; exact .inr ⟨hu, hv⟩
    · left; simp [ht])
  obtain ⟨L', h1, h2, h3, h4⟩ := this L H (fun _ => a) hKL hR (fun t => by
    by_cases ht : t = 0
    · subst ht; exact hua
    · simp only [ht, if_false, Rp])
  exact ⟨L', h1, h2, h3 0, h4⟩
theorem Wv_wk {u : PV} {B1 B2 : List PB} {v1 v : PV} (t : Nat) {E1 : PE0} (hw : ∀ E : PE0, E t = u → Wk K E B (fun i => if i = t then v1 else .dd) B1) (hv : Wv K B1 v1 B2 v) : Wv K B u B2 v := by
  intro L H a hK hR hu
  obtain ⟨L1, h1, h2, h3, h4, h5, h6, h7⟩ := hw (fun i => if i = t then u else .dd) (by simp) L H (fun _ => a) hK hR (fun i => by
    by_cases hi : i = t
    · simp only [hi, if_true]; exact hu
    · simp only [hi, if_false, Rp])
  have h3t := h3 t
  simp only [if_true] at h3t
  obtain ⟨L2, g1, g2, g3, g4, g5, g6, g7⟩ := hv L1 H a h1 h2 h3t
  exact ⟨L2, g1, g2, g3, fun x hx => (g4 x hx).trans (h4 x hx), fun X hX => g5 X (h5 X hX), fun X hX => (g6 X hX).elim (h6 X) fun h => .inr (h7 X h), fun X hX => h7 X (g7 X hX)⟩
def penv (args : List PV) : PE0 := fun i => args.getD i (.tu [])
def Ends (K : Nat) (rs : List RRes) (B1 : List PB) (v : PV) : PEnd := fun o E B => match o with | none => ∃ vs, prv E B rs = some vs ∧ Wv K B (ptup vs) B1 v | some _ => False
theorem penv_ok {L : Lk} {H : AH} : ∀ {args : List PV} {as : List AV}, RpL L H args as → ER L H (penv args) (env as) := by
  intro args as h t
  simp only [penv, env, List.getD_eq_getElem?_getD]
  cases hg : args[t]? with
  | some v =>
    obtain ⟨a, h1, h2⟩ := h.get hg
    rw [h1]; exact h2
  | none =>
    have : as[t]? = none := by
      rw [List.getElem?_eq_none_iff] at hg ⊢
      rw [h.len]; exact hg
    rw [this]
    exact ⟨[], rfl, rfl⟩
/-- A function's contract, out of its body. -/
theorem pcall_of_Y {f : FuncId} {rf : RFun} {args : List PV} {B1 : List PB} {v : PV} (hf : resF P f = some rf) (hn : args.length ≤ rf.nt) (h : Y P B.length (Ends B.length rf.rs B1 v) [.c rf.body] (penv args) B) : PCall P f B args B1 v (List.range B.length) := by
  intro L H avs hR ha
  have hLn := hR.n
  have hc := call_of_X (Q := fun r H' => ∃ a L', r = .ret a ∧ Fw B.length L H B L' H' B1 ∧ B.length ≤ L'.n ∧ HR L' H' B1 ∧ Rp L' H' v a) hf (by rw [ha.len]; exact hn) (h L H B _ ?_ ?_ L H (env avs) .refl (by omega) hR (penv_ok ha))
  · obtain ⟨r, H', h1, a, L', rfl, h2, h3, h4, h5⟩ := hc
    refine ⟨a, H', L', h1, ⟨⟨h2.st, by rw [hLn]; exact h3, fun b hb => h2.m b (by omega)⟩, h2.fr, h2.fF, h2.fO⟩, h4, h5, fun X hX hT => ?_⟩
    by_cases hF : L.F X
    · exact h2.st.g X hF
    · refine h2.fr X hX hF fun ⟨b, p, g1, g2, g3, g4⟩ => ?_
      have hb := (List.getElem?_eq_some_iff.1 g1).1
      exact hT b (List.mem_range.2 hb) (by omega) g3
  · rintro L1 H1 E1 B2 Ea fw hK hR1 hE1 ⟨vs, h1, h2⟩
    obtain ⟨as, h3, h4⟩ := prv_ok hR1 hE1 h1
    obtain ⟨L2, g1, g2, g3, g4, g5, g6, g7⟩ := h2 L1 H1 _ hK hR1 (ptup_ok h4)
    have f' : Fw B.length L1 H1 B2 L2 H1 B1 := ⟨⟨Nat.le_refl _, g5, fun _ _ => rfl⟩, g4, fun _ _ _ _ => rfl, fun X hX => (g6 X hX).imp id .inl, fun X hX => .inl (g7 X hX)⟩
    exact ⟨rfl, as, h3, _, L2, rfl, fw.trans f', g1, g2, g3⟩
  · rintro L1 H1 E1 B2 Ea v a fw hK hR1 hE1 hv h
    exact h.elim
theorem pu_of_Y {f : FuncId} {rf : RFun} {args : List PV} {B1 : List PB} {v : PV} (hf : resF P f = some rf) (hn : args.length ≤ rf.nt) (h : Y P 0 (Ends 0 rf.rs B1 v) [.c rf.body] (penv args) []) : Pu P f args B1 v := pcall_of_Y (B := []) hf hn h
end
end Go.AX
