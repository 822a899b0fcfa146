/- AX, part U: the rules of the walk. -/
import Derived.Test.YtjmknbbipadjbaaAxM
import Derived.IntWalk
set_option linter.unusedSimpArgs false
set_option linter.unusedVariables false
namespace Go.AX
open Go

section
variable {P : Program} {R : Fin} {k : List It} {E : Env} {H : AH} {ds : List ADef}
theorem X_step {k' : List It} {E' : Env} {H' : AH} {ds' : List ADef} (h : ∀ n, XF P R (n + 1) k E H ds ↔ XF P R n k' E' H' ds') : X P R k E H ds = X P R k' E' H' ds' := by
  apply propext
  constructor
  · rintro ⟨n, h1⟩
    cases n with
    | zero => simp [XF] at h1
    | succ n => exact ⟨n, (h n).1 h1⟩
  · rintro ⟨n, h1⟩
    exact ⟨n + 1, (h n).2 h1⟩
theorem X_end (Q : Prop) (h : ∀ n, XF P R (n + 1) k E H ds ↔ Q) : X P R k E H ds = Q := by
  apply propext
  constructor
  · rintro ⟨n, h1⟩
    cases n with
    | zero => simp [XF] at h1
    | succ n => exact (h n).1 h1
  · intro q
    exact ⟨1, (h 0).2 q⟩
theorem X_nil : X P R [] E H ds = R .ret E H ds := X_end _ fun n => by simp only [XF]
theorem X_ret : X P R (.c .ret :: k) E H ds = R .ret E H ds := X_end _ fun n => by simp only [XF]
theorem X_blk {i : Nat} : X P R (.blk i :: k) E H ds = X P R k E H ds := X_step fun n => by simp only [XF]
theorem X_lp {c : RC} : X P R (.lp c :: k) E H ds = X P R (.c c :: .lp c :: k) E H ds := X_step fun n => by simp only [XF]
theorem X_skip : X P R (.c .skip :: k) E H ds = X P R k E H ds := X_step fun n => by simp only [XF]
theorem X_reg {l : List ROper} : X P R (.c (.reg l) :: k) E H ds = X P R (.o l :: k) E H ds := X_step fun n => by simp only [XF]
theorem X_seq {a b : RC} : X P R (.c (.seq a b) :: k) E H ds = X P R (.c a :: .c b :: k) E H ds := X_step fun n => by simp only [XF]
theorem X_block {i : Nat} {a : RC} : X P R (.c (.block i a) :: k) E H ds = X P R (.c a :: .blk i :: k) E H ds := X_step fun n => by simp only [XF]
theorem X_loop {a : RC} : X P R (.c (.loop a) :: k) E H ds = X P R (.c a :: .lp a :: k) E H ds := X_step fun n => by simp only [XF]
theorem X_onil : X P R (.o [] :: k) E H ds = X P R k E H ds := X_step fun n => by simp only [XF]
theorem X_exit_hit {i : Nat} : X P R (.c (.exit i) :: .blk i :: k) E H ds = X P R k E H ds := X_step fun n => by
  simp only [XF, itExit, beq_self_eq_true, if_true, Option.some.injEq, exists_eq_left']
theorem X_exit_go {i : Nat} {it : It} (h : ∀ k : List It, itExit i (it :: k) = itExit i k) : X P R (.c (.exit i) :: it :: k) E H ds = X P R (.c (.exit i) :: k) E H ds := by
  apply propext
  constructor
  · rintro ⟨n, h1⟩
    cases n with
    | zero => simp [XF] at h1
    | succ n => simp only [XF, h] at h1; exact ⟨n + 1, by simp only [XF]; exact h1⟩
  · rintro ⟨n, h1⟩
    cases n with
    | zero => simp [XF] at h1
    | succ n => simp only [XF] at h1; exact ⟨n + 1, by simp only [XF, h]; exact h1⟩
theorem X_exit_blk {i j : Nat} (h : j ≠ i) : X P R (.c (.exit i) :: .blk j :: k) E H ds = X P R (.c (.exit i) :: k) E H ds := X_exit_go fun k => by simp [itExit, h]
theorem X_exit_c {i : Nat} {c : RC} : X P R (.c (.exit i) :: .c c :: k) E H ds = X P R (.c (.exit i) :: k) E H ds := X_exit_go fun k => by simp [itExit]
theorem X_exit_o {i : Nat} {l : List ROper} : X P R (.c (.exit i) :: .o l :: k) E H ds = X P R (.c (.exit i) :: k) E H ds := X_exit_go fun k => by simp [itExit]
theorem X_exit_lp {i : Nat} {c : RC} : X P R (.c (.exit i) :: .lp c :: k) E H ds = X P R (.c (.exit i) :: k) E H ds := X_exit_go fun k => by simp [itExit]

/-- A fork. -/
def AtB (P : Program) (R : Fin) (v : AV) (a b : RC) (k : List It) (E : Env) (H : AH) (ds : List ADef) : Prop := ∃ t, v = .bo t ∧ X P R (.c (bif t then a else b) :: k) E H ds
theorem X_cond {c : Opd} {a b : RC} : X P R (.c (.cond c a b) :: k) E H ds = AtB P R (ev E c) a b k E H ds := by
  apply propext
  constructor
  · rintro ⟨n, h1⟩
    cases n with
    | zero => simp [XF] at h1
    | succ n => simp only [XF] at h1; obtain ⟨t, ht, h⟩ := h1; exact ⟨t, ht, n, h⟩
  · rintro ⟨t, ht, n, h⟩
    exact ⟨n + 1, by simp only [XF]; exact ⟨t, ht, h⟩⟩
theorem AtB_t {a b : RC} : AtB P R (.bo true) a b k E H ds = X P R (.c a :: k) E H ds := by simp [AtB]
theorem AtB_f {a b : RC} : AtB P R (.bo false) a b k E H ds = X P R (.c b :: k) E H ds := by simp [AtB]

/-- A value, and on. -/
def AtV (P : Program) (R : Fin) (r : Option (AV × AH)) (d : Option Nat) (l : List ROper) (k : List It) (E : Env) (ds : List ADef) : Prop := ∃ v H', r = some (v, H') ∧ X P R (.o l :: k) (E.put d v) H' ds
theorem AtV_some {v : AV} {d : Option Nat} {l : List ROper} : AtV P R (some (v, H)) d l k E ds = X P R (.o l :: k) (E.put d v) H ds := propext ⟨fun ⟨_, _, h, hx⟩ => by
  simp only [Option.some.injEq, Prod.mk.injEq] at h
  obtain ⟨rfl, rfl⟩ := h; exact hx, fun h => ⟨_, _, rfl, h⟩⟩
theorem X_ov {d : Option Nat} {vo : VOp} {l : List ROper} : X P R (.o (⟨d, none, .v vo⟩ :: l) :: k) E H ds = AtV P R (vop vo E H) d l k E ds := by
  apply propext
  constructor
  · rintro ⟨n, h1⟩
    cases n with
    | zero => simp [XF] at h1
    | succ n => simp only [XF, gwant, Option.some.injEq, exists_eq_left', if_true] at h1; obtain ⟨v, H', h, h2⟩ := h1; exact ⟨v, H', h, n, h2⟩
  · rintro ⟨v, H', h, n, h2⟩
    exact ⟨n + 1, by simp only [XF, gwant, Option.some.injEq, exists_eq_left', if_true]; exact ⟨v, H', h, h2⟩⟩
/-- A call, and on. -/
def AtC (P : Program) (R : Fin) (f : FuncId) (args : List AV) (d : Option Nat) (l : List ROper) (k : List It) (E : Env) (H : AH) (ds : List ADef) : Prop := ∃ r H', CallT P f args H r H' ∧ AtEnd R (X P R) r d l k E H' ds
theorem AtEnd_X {r : AEnd} {d : Option Nat} {l : List ROper} : AtEnd R (X P R) r d l k E H ds ↔ ∃ n, AtEnd R (XF P R n) r d l k E H ds := by
  cases r with
  | ret v => simp only [AtEnd, X]
  | pan p => simp [AtEnd]
theorem X_oc {d : Option Nat} {f : FuncId} {args : List Opd} {l : List ROper} : X P R (.o (⟨d, none, .call f args⟩ :: l) :: k) E H ds = AtC P R f (vals E args) d l k E H ds := by
  apply propext
  constructor
  · rintro ⟨n, h1⟩
    cases n with
    | zero => simp [XF] at h1
    | succ n => simp only [XF, gwant, Option.some.injEq, exists_eq_left', if_true] at h1; obtain ⟨r, H', h, h2⟩ := h1; exact ⟨r, H', h, AtEnd_X.2 ⟨n, h2⟩⟩
  · rintro ⟨r, H', h, h2⟩
    obtain ⟨n, h2⟩ := AtEnd_X.1 h2
    exact ⟨n + 1, by simp only [XF, gwant, Option.some.injEq, exists_eq_left', if_true]; exact ⟨r, H', h, h2⟩⟩
theorem AtC_of {f : FuncId} {args : List AV} {d : Option Nat} {l : List ROper} {v : AV} {Q : AH → Prop} (hc : Call P f args H fun r H' => r = .ret v ∧ Q H') (h : ∀ H', Q H' → X P R (.o l :: k) (E.put d v) H' ds) : AtC P R f args d l k E H ds := by
  obtain ⟨r, H', h1, rfl, h2⟩ := hc
  exact ⟨_, H', h1, h H' h2⟩
/-- An operation under a guard. -/
def AtG (P : Program) (R : Fin) (v : AV) (b : Bool) (d : Option Nat) (o : ROp) (l : List ROper) (k : List It) (E : Env) (H : AH) (ds : List ADef) : Prop :=
  ∃ t, v = .bo t ∧ if t = b then X P R (.o (⟨d, none, o⟩ :: l) :: k) E H ds else X P R (.o l :: k) (E.put d (.tu [])) H ds
theorem X_og {d : Option Nat} {t : Nat} {b : Bool} {o : ROp} {l : List ROper} (h : AtG P R (E t) b d o l k E H ds) : X P R (.o (⟨d, some (t, b), o⟩ :: l) :: k) E H ds := by
  obtain ⟨c, hc, h⟩ := h
  split at h
  · rename_i he
    obtain ⟨n, h⟩ := h
    cases n with
    | zero => simp [XF] at h
    | succ n =>
      refine ⟨n + 1, ?_⟩
      simp only [XF, gwant, Option.some.injEq, exists_eq_left', if_true] at h
      simp only [XF, gwant, hc, he, beq_self_eq_true, Option.some.injEq, exists_eq_left', if_true]
      exact h
  · rename_i he
    obtain ⟨n, h⟩ := h
    refine ⟨n + 1, ?_⟩
    have : (c == b) = false := by simpa using he
    simp only [XF, gwant, hc, this, Option.some.injEq, exists_eq_left', Bool.false_eq_true, if_false]
    exact h
theorem X_ogt {d : Option Nat} {t : Nat} {b : Bool} {o : ROp} {l : List ROper} (ht : E t = .tu []) (h : X P R (.o l :: k) (E.put d (.tu [])) H ds) : X P R (.o (⟨d, some (t, b), o⟩ :: l) :: k) E H ds := by
  obtain ⟨n, h⟩ := h
  refine ⟨n + 1, ?_⟩
  simp only [XF, gwant, ht, Option.some.injEq, exists_eq_left', Bool.false_eq_true, if_false]
  exact h
section
variable {d : Option Nat} {o : ROp} {l : List ROper}
theorem AtG_tt : AtG P R (.bo true) true d o l k E H ds = X P R (.o (⟨d, none, o⟩ :: l) :: k) E H ds := by simp [AtG]
theorem AtG_ff : AtG P R (.bo false) false d o l k E H ds = X P R (.o (⟨d, none, o⟩ :: l) :: k) E H ds := by simp [AtG]
theorem AtG_tf : AtG P R (.bo true) false d o l k E H ds = X P R (.o l :: k) (E.put d (.tu [])) H ds := by simp [AtG]
theorem AtG_ft : AtG P R (.bo false) true d o l k E H ds = X P R (.o l :: k) (E.put d (.tu [])) H ds := by simp [AtG]
end

/-! ### Regions that draw -/
def XD (P : Program) (R : Fin) : List DOp → List It → Env → AH → List ADef → Prop
  | [], k, E, H, ds => X P R k E H ds
  | x :: r, k, E, H, ds => ∃ E1 H1, DStep P x E H E1 H1 ∧ XD P R r k E1 H1 ds
theorem XD_iff : ∀ {L : List DOp} {E : Env} {H : AH}, XD P R L k E H ds ↔ ∃ E' H', DT P L E H E' H' ∧ X P R k E' H' ds
  | [], E, H => by
    simp only [XD, DT]
    exact ⟨fun h => ⟨E, H, ⟨rfl, rfl⟩, h⟩, fun ⟨_, _, ⟨rfl, rfl⟩, h⟩ => h⟩
  | x :: r, E, H => by
    simp only [XD, DT]
    constructor
    · rintro ⟨E1, H1, h1, h2⟩
      obtain ⟨E', H', h3, h4⟩ := XD_iff.1 h2
      exact ⟨E', H', ⟨E1, H1, h1, h3⟩, h4⟩
    · rintro ⟨E', H', ⟨E1, H1, h1, h3⟩, h4⟩
      exact ⟨E1, H1, h1, XD_iff.2 ⟨E', H', h3, h4⟩⟩
theorem X_regd {L : List DOp} : X P R (.c (.regd L) :: k) E H ds = XD P R L k E H ds := by
  apply propext
  rw [XD_iff]
  constructor
  · rintro ⟨n, h1⟩
    cases n with
    | zero => simp [XF] at h1
    | succ n => simp only [XF] at h1; obtain ⟨E', H', h, h2⟩ := h1; exact ⟨E', H', h, n, h2⟩
  · rintro ⟨E', H', h, n, h2⟩
    exact ⟨n + 1, by simp only [XF]; exact ⟨E', H', h, h2⟩⟩
theorem XD_nil : XD P R [] k E H ds = X P R k E H ds := rfl
def DtV (P : Program) (R : Fin) (r : Option (AV × AH)) (d : Option Nat) (rk : List ROper) (L : List DOp) (k : List It) (E : Env) (H : AH) (ds : List ADef) : Prop :=
  ∃ v H', r = some (v, H') ∧ Rechks rk (E.put d v) H H' ∧ XD P R L k (E.put d v) H' ds
section
variable {d : Option Nat} {rk : List ROper} {L : List DOp} {vo : VOp} {f : FuncId} {args : List Opd}
theorem XD_v : XD P R (⟨⟨d, none, .v vo⟩, rk⟩ :: L) k E H ds = DtV P R (vop vo E H) d rk L k E H ds := by
  simp only [XD, DStep, gwant, Option.some.injEq, exists_eq_left', if_true, DtV]
  apply propext
  constructor
  · rintro ⟨E1, H1, ⟨v, h, rfl, hc⟩, hx⟩
    exact ⟨v, H1, h, hc, hx⟩
  · rintro ⟨v, H1, h, hc, hx⟩
    exact ⟨_, H1, ⟨v, h, rfl, hc⟩, hx⟩
theorem DtV_nil {v : AV} {H' : AH} : DtV P R (some (v, H')) d [] L k E H ds = XD P R L k (E.put d v) H' ds := propext ⟨fun ⟨_, _, h, _, hx⟩ => by
  simp only [Option.some.injEq, Prod.mk.injEq] at h
  obtain ⟨rfl, rfl⟩ := h; exact hx, fun h => ⟨_, _, rfl, fun _ h => by simp at h, h⟩⟩
theorem DtV_some {v : AV} {H' : AH} : DtV P R (some (v, H')) d rk L k E H ds = (Rechks rk (E.put d v) H H' ∧ XD P R L k (E.put d v) H' ds) := propext ⟨fun ⟨_, _, h, hx⟩ => by
  simp only [Option.some.injEq, Prod.mk.injEq] at h
  obtain ⟨rfl, rfl⟩ := h; exact hx, fun h => ⟨_, _, rfl, h⟩⟩
def DtC (P : Program) (R : Fin) (f : FuncId) (args : List AV) (d : Option Nat) (rk : List ROper) (L : List DOp) (k : List It) (E : Env) (H : AH) (ds : List ADef) : Prop :=
  ∃ v H', CallT P f args H (.ret v) H' ∧ Rechks rk (E.put d v) H H' ∧ XD P R L k (E.put d v) H' ds
theorem XD_c : XD P R (⟨⟨d, none, .call f args⟩, rk⟩ :: L) k E H ds = DtC P R f (vals E args) d rk L k E H ds := by
  simp only [XD, DStep, gwant, Option.some.injEq, exists_eq_left', if_true, DtC]
  apply propext
  constructor
  · rintro ⟨E1, H1, ⟨v, h, rfl, hc⟩, hx⟩
    exact ⟨v, H1, h, hc, hx⟩
  · rintro ⟨v, H1, h, hc, hx⟩
    exact ⟨_, H1, ⟨v, h, rfl, hc⟩, hx⟩
theorem DtC_of {args : List AV} {v : AV} {Q : AH → Prop} (hc : Call P f args H fun r H' => r = .ret v ∧ Q H') (h : ∀ H', Q H' → Rechks rk (E.put d v) H H' ∧ XD P R L k (E.put d v) H' ds) : DtC P R f args d rk L k E H ds := by
  obtain ⟨r, H', h1, rfl, h2⟩ := hc
  exact ⟨v, H', h1, h H' h2⟩
def DtG (P : Program) (R : Fin) (v : AV) (b : Bool) (d : Option Nat) (o : ROp) (rk : List ROper) (L : List DOp) (k : List It) (E : Env) (H : AH) (ds : List ADef) : Prop :=
  ∃ t, v = .bo t ∧ if t = b then XD P R (⟨⟨d, none, o⟩, rk⟩ :: L) k E H ds else XD P R L k (E.put d (.tu [])) H ds
variable {o : ROp}
theorem DtG_tt : DtG P R (.bo true) true d o rk L k E H ds = XD P R (⟨⟨d, none, o⟩, rk⟩ :: L) k E H ds := by simp [DtG]
theorem DtG_ff : DtG P R (.bo false) false d o rk L k E H ds = XD P R (⟨⟨d, none, o⟩, rk⟩ :: L) k E H ds := by simp [DtG]
theorem DtG_tf : DtG P R (.bo true) false d o rk L k E H ds = XD P R L k (E.put d (.tu [])) H ds := by simp [DtG]
theorem DtG_ft : DtG P R (.bo false) true d o rk L k E H ds = XD P R L k (E.put d (.tu [])) H ds := by simp [DtG]
end

theorem Rechks_nil {H' : AH} : Rechks [] E H H' = True := by simp [Rechks]
theorem Rechks_cons {H' : AH} {t : Nat} {g : Option (Nat × Bool)} {o : ROp} {rk : List ROper} : Rechks (⟨some t, g, o⟩ :: rk) E H H' = (Rechk ⟨some t, g, o⟩ E H H' ∧ Rechks rk E H H') := by
  simp [Rechks]
theorem Rechk_n {H' : AH} {t : Nat} {vo : VOp} : Rechk ⟨some t, none, .v vo⟩ E H H' = if vo.cls = 1 then sameB (E t) H H' else vop vo E H' = some (E t, H') := by
  simp [Rechk, gwant]
def RkG (v : AV) (b : Bool) (Q : Prop) : Prop := (∃ c, v = .bo c ∧ c ≠ b) ∨ Q
theorem RkG_tt {Q : Prop} : RkG (.bo true) true Q = Q := by simp [RkG]
theorem RkG_ff {Q : Prop} : RkG (.bo false) false Q = Q := by simp [RkG]
theorem RkG_tf {Q : Prop} : RkG (.bo true) false Q = True := by simp [RkG]
theorem RkG_ft {Q : Prop} : RkG (.bo false) true Q = True := by simp [RkG]
theorem sameB_pt {b o : Nat} {H' : AH} : sameB (.pt b o) H H' = (H'.g b = H.g b) := rfl
theorem sameB_sl {b o n c : Nat} {H' : AH} : sameB (.sl b o n c) H H' = (H'.g b = H.g b) := rfl

/-! ### Loops -/
theorem X_while {σ : Type} (I : σ → Env → AH → Prop) (μ : σ → Nat) {a : RC} (s : σ) (h0 : I s E H)
    (step : ∀ s E H, I s E H → (∀ s' E' H', μ s' < μ s → I s' E' H' → X P R (.lp a :: k) E' H' ds) → X P R (.c a :: .lp a :: k) E H ds) : X P R (.c (.loop a) :: k) E H ds := by
  rw [X_loop]
  have key : ∀ n s E H, μ s < n → I s E H → X P R (.c a :: .lp a :: k) E H ds := by
    intro n
    induction n with
    | zero => intro s E H h; omega
    | succ n ih =>
      intro s E H h hI
      exact step s E H hI fun s' E' H' hlt hI' => by rw [X_lp]; exact ih s' E' H' (by omega) hI'
  exact key _ s E H (Nat.lt_succ_self _) h0

/-! ### The end -/
def AtR (r : Option (List AV)) (Q : AEnd → AH → Prop) (H : AH) : Prop := ∃ l, r = some l ∧ Q (.ret (rtup l)) H
theorem FinV_ret {rs : List RRes} {Q : AEnd → AH → Prop} : FinV rs Q .ret E H [] = AtR (rvals E H rs) Q H := by simp [FinV, AtR]
theorem AtR_some {l : List AV} {Q : AEnd → AH → Prop} : AtR (some l) Q H = Q (.ret (rtup l)) H := by simp [AtR]
theorem rtup_one {v : AV} : rtup [v] = v := rfl
theorem rtup_nil : rtup [] = .tu [] := rfl
theorem rtup_two {v u : AV} {l : List AV} : rtup (v :: u :: l) = .tu (v :: u :: l) := rfl
end

/-! ### Temporaries -/
section
variable {E : Env} {d t : Nat} {v : AV}
theorem put_some : E.put (some d) v = E.st d v := rfl
theorem put_none : E.put none v = E := rfl
theorem st_eq : (E.st d v) d = v := by simp [Env.st]
theorem st_ne (h : t ≠ d) : (E.st d v) t = E t := by simp [Env.st, h]
theorem st_ap : (E.st d v) t = if t = d then v else E t := rfl
theorem ev_t : ev E (.t t) = E t := rfl
theorem ev_k : ev E (.k v) = v := rfl
theorem ev_f : ev E (.f t) = .fn (.func t) [] [] := rfl
theorem env_0 {v : AV} {l : List AV} : env (v :: l) 0 = v := rfl
theorem env_s {v : AV} {l : List AV} {n : Nat} : env (v :: l) (n + 1) = env l n := rfl
theorem env_n {n : Nat} : env [] n = .tu [] := rfl
theorem vals_nil : vals E [] = [] := rfl
theorem vals_cons {x : Opd} {l : List Opd} : vals E (x :: l) = ev E x :: vals E l := rfl
end

/-! ### Numbers -/
section
variable {te : EqT} {cn : Bool} {k k' : IntKind} {a b : Int}
theorem vbin_add : vbin .add te cn (.it k a) (.it k b) = some (.it k (k.wrap (a + b))) := by simp [vbin, BinOp.isSh, intBin]
theorem vbin_sub : vbin .sub te cn (.it k a) (.it k b) = some (.it k (k.wrap (a - b))) := by simp [vbin, BinOp.isSh, intBin]
theorem vbin_mul : vbin .mul te cn (.it k a) (.it k b) = some (.it k (k.wrap (a * b))) := by simp [vbin, BinOp.isSh, intBin]
theorem vbin_quo : vbin .quo te cn (.it k a) (.it k b) = if b = 0 then none else some (.it k (k.wrap (a.tdiv b))) := by simp [vbin, BinOp.isSh, intBin]
theorem vbin_rem : vbin .rem te cn (.it k a) (.it k b) = if b = 0 then none else some (.it k (a.tmod b)) := by simp [vbin, BinOp.isSh, intBin]
theorem vbin_and : vbin .and te cn (.it k a) (.it k b) = some (.it k (Go.bits .and k a b)) := by simp [vbin, BinOp.isSh, intBin]
theorem vbin_or : vbin .or te cn (.it k a) (.it k b) = some (.it k (Go.bits .or k a b)) := by simp [vbin, BinOp.isSh, intBin]
theorem vbin_xor : vbin .xor te cn (.it k a) (.it k b) = some (.it k (Go.bits .xor k a b)) := by simp [vbin, BinOp.isSh, intBin]
theorem vbin_andNot : vbin .andNot te cn (.it k a) (.it k b) = some (.it k (Go.bits .andNot k a b)) := by simp [vbin, BinOp.isSh, intBin]
theorem vbin_eql : vbin .eql te cn (.it k a) (.it k b) = some (.bo (a == b)) := by simp [vbin, BinOp.isSh, intBin]
theorem vbin_neq : vbin .neq te cn (.it k a) (.it k b) = some (.bo (a != b)) := by simp [vbin, BinOp.isSh, intBin]
theorem vbin_lss : vbin .lss te cn (.it k a) (.it k b) = some (.bo (decide (a < b))) := by simp [vbin, BinOp.isSh, intBin]
theorem vbin_leq : vbin .leq te cn (.it k a) (.it k b) = some (.bo (decide (a ≤ b))) := by simp [vbin, BinOp.isSh, intBin]
theorem vbin_gtr : vbin .gtr te cn (.it k a) (.it k b) = some (.bo (decide (a > b))) := by simp [vbin, BinOp.isSh, intBin]
theorem vbin_geq : vbin .geq te cn (.it k a) (.it k b) = some (.bo (decide (a ≥ b))) := by simp [vbin, BinOp.isSh, intBin]
theorem vbin_shl : vbin .shl te cn (.it k a) (.it k' b) = if b < 0 then none else some (.it k (k.wrap (a * 2 ^ (min b.toNat k.bits)))) := by simp [vbin, BinOp.isSh, shBin]
theorem vbin_shr : vbin .shr te cn (.it k a) (.it k' b) = if b < 0 then none else some (.it k (a.fdiv (2 ^ (min b.toNat k.bits)))) := by simp [vbin, BinOp.isSh, shBin]
theorem vbin_beq {a b : Bool} : vbin .eql .bo cn (.bo a) (.bo b) = some (.bo (a == b)) := by simp [vbin, veq]
theorem vbin_bne {a b : Bool} : vbin .neq .bo cn (.bo a) (.bo b) = some (.bo (!(a == b))) := by simp [vbin, veq]
theorem vun_not {a : Bool} : vun .not (.bo a) = some (.bo (!a)) := rfl
theorem vcvi_it : vcvi k (.it k' a) = some (.it k (k.wrap a)) := rfl
theorem pick_t {x y : AV} : AV.pick (.bo true) x y = some x := rfl
theorem pick_f {x y : AV} : AV.pick (.bo false) x y = some y := rfl
theorem pick_b {t : Bool} {x y : AV} : AV.pick (.bo t) x y = some (bif t then x else y) := rfl
end

/-! ### A heap goes on, and what was there stays -/
structure Ext (H H' : AH) : Prop where
  nx : H.nx ≤ H'.nx
  g : ∀ b, b < H.nx → H'.g b = H.g b
theorem Ext.refl (H : AH) : Ext H H := ⟨Nat.le_refl _, fun _ _ => rfl⟩
theorem Ext.trans {H H1 H2 : AH} (a : Ext H H1) (b : Ext H1 H2) : Ext H H2 := ⟨Nat.le_trans a.nx b.nx, fun x hx => (b.g x (Nat.lt_of_lt_of_le hx a.nx)).trans (a.g x hx)⟩
theorem Ext.al (H : AH) (l : List AV) : Ext H (H.al l) := ⟨Nat.le_succ _, fun b hb => by simp only [AH.al]; rw [if_neg (by omega)]⟩
theorem Ext.up {H H1 : AH} (a : Ext H H1) {b : Nat} (hb : H.nx ≤ b) (l : List AV) : Ext H (H1.up b l) := ⟨a.nx, fun x hx => by simp only [AH.up]; rw [if_neg (by omega)]; exact a.g x hx⟩
theorem al_nx {H : AH} {l : List AV} : (H.al l).nx = H.nx + 1 := rfl
theorem up_nx {H : AH} {b : Nat} {l : List AV} : (H.up b l).nx = H.nx := rfl
theorem al_new {H : AH} {l : List AV} : (H.al l).g H.nx = .rw l := by simp [AH.al]
theorem al_old {H : AH} {l : List AV} {b : Nat} (h : b < H.nx) : (H.al l).g b = H.g b := by simp only [AH.al]; rw [if_neg (by omega)]
theorem up_self {H : AH} {l : List AV} {b : Nat} : (H.up b l).g b = .rw l := by simp [AH.up]
theorem up_other {H : AH} {l : List AV} {b x : Nat} (h : x ≠ b) : (H.up b l).g x = H.g x := by simp [AH.up, h]

end Go.AX
