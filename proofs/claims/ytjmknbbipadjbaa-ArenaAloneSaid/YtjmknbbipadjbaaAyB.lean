/- AY, part B: named blocks; operations that leave memory as it is. -/
import Derived.Test.YtjmknbbipadjbaaAyA
set_option linter.unusedSimpArgs false
set_option linter.unusedVariables false
namespace Go.AX
open Go

inductive PB where
  | no
  | va (l : List PV)                              -- variables, one's own
  | fv (l : List PV)                              -- variables that stay
  | gs (w : Bool) (es : Nat) (l : List PV)        -- a slice, one's own (w: it may be written)
  | fz (es : Nat) (l : List PV)                   -- a slice that stays
  deriving Inhabited
def PB.own : PB → Bool
  | .va _ => true
  | .gs _ _ _ => true
  | _ => false

/-- A slice that begins where its block begins. -/
def GsX (F : Nat → Prop) (H : AH) (es : Nat) (l : List PV) (a : AV) (B : Nat) : Prop :=
  ∃ cs sp, B < H.nx ∧ H.g B = .rw (cs ++ sp) ∧ RcE F H es l cs ∧ ((a = .sg B 0 0 l.length es ∧ 0 < es) ∨ ∃ c, l.length ≤ c ∧ a = .sl B 0 l.length c ∧ sp.length = (c - l.length) * es)
def GsR (L : Lk) (H : AH) (w : Bool) (es : Nat) (l : List PV) (a : AV) : Prop :=
  (Rc L.F H (.vs 2 es l) a ∧ (w = true → l = [])) ∨ ∃ B, ¬ L.F B ∧ GsX L.F H es l a B
def BkR (L : Lk) (H : AH) : PB → AV → Prop
  | .no, _ => True
  | .va l, a => ∃ B cs, a = .pt B 0 ∧ B < H.nx ∧ ¬ L.F B ∧ H.g B = .rw cs ∧ RpL L H l cs
  | .fv l, a => Rc L.F H (.pe l 0) a ∧ ∃ B, a = .pt B 0
  | .gs w es l, a => GsR L H w es l a ∧ a.cl = some [a]
  | .fz es l, a => ((Rc L.F H (.vs 2 es l) a ∧ l = []) ∨ ∃ B, L.F B ∧ GsX L.F H es l a B) ∧ a.cl = some [a]
structure HR (L : Lk) (H : AH) (B : List PB) : Prop where
  n : L.n = B.length
  fl : ∀ X, L.F X → X < H.nx
  wf : ∀ X, H.nx ≤ X → H.g X = .no
  bk : ∀ b p, B[b]? = some p → BkR L H p (L.m b)
  dj : ∀ b b' p p' X, B[b]? = some p → B[b']? = some p' → p.own = true → p'.own = true → (L.m b).bk = some X → (L.m b').bk = some X → ¬ L.F X → b = b'
def ER (L : Lk) (H : AH) (E : Nat → PV) (Ea : Env) : Prop := ∀ t, Rp L H (E t) (Ea t)
def Ow (L : Lk) (B : List PB) (X : Nat) : Prop := ∃ b p, B[b]? = some p ∧ p.own = true ∧ (L.m b).bk = some X ∧ ¬ L.F X
/-- How the heap goes on. -/
structure Ev (L : Lk) (H : AH) (B : List PB) (L' : Lk) (H' : AH) (B' : List PB) : Prop where
  k : Keep L H L' H'
  fr : ∀ X, X < H.nx → ¬ L.F X → ¬ Ow L B X → H'.g X = H.g X
  fF : ∀ X, L'.F X → L.F X ∨ Ow L B X ∨ H.nx ≤ X
  fO : ∀ X, Ow L' B' X → Ow L B X ∨ H.nx ≤ X
theorem Ev.refl {L : Lk} {H : AH} {B : List PB} : Ev L H B L H B := ⟨.refl, fun _ _ _ _ => rfl, fun _ h => .inl h, fun _ h => .inl h⟩
theorem Ev.trans {L L1 L2 : Lk} {H H1 H2 : AH} {B B1 B2 : List PB} (a : Ev L H B L1 H1 B1) (b : Ev L1 H1 B1 L2 H2 B2) : Ev L H B L2 H2 B2 := by
  have hn := a.k.st.nx
  refine ⟨a.k.trans b.k, fun X h1 h2 h3 => ?_, fun X h => ?_, fun X h => ?_⟩
  · rw [b.fr X (Nat.lt_of_lt_of_le h1 hn) (fun h => ?_) (fun h => ?_)]
    · exact a.fr X h1 h2 h3
    · rcases a.fF X h with h | h | h
      · exact h2 h
      · exact h3 h
      · omega
    · rcases a.fO X h with h | h
      · exact h3 h
      · omega
  · rcases b.fF X h with h | h | h
    · exact a.fF X h
    · exact .inr (a.fO X h)
    · exact .inr (.inr (Nat.le_trans hn h))
  · rcases b.fO X h with h | h
    · exact a.fO X h
    · exact .inr (Nat.le_trans hn h)

/-! ### Constants -/
mutual
def ofAV : AV → PV
  | .bo x => .bo x
  | .it k n => .it k n
  | .st x => .st x
  | .np => .np
  | .nf => .nf
  | .ni => .ni
  | .sn => .sn
  | .ag l => .ag (ofAVL l)
  | .tu l => .tu (ofAVL l)
  | _ => .dd
def ofAVL : List AV → List PV
  | [] => []
  | v :: r => ofAV v :: ofAVL r
end
mutual
theorem Rc_of {F : Nat → Prop} {H : AH} : ∀ (a : AV), Rc F H (ofAV a) a
  | .bo _ | .it _ _ | .st _ | .np | .nf | .ni | .sn => by simp only [ofAV, Rc]
  | .ag l => ⟨l, rfl, RcL_of l⟩
  | .tu l => ⟨l, rfl, RcL_of l⟩
  | .fl _ _ | .pt _ _ | .sl _ _ _ _ | .sg _ _ _ _ _ | .fn _ _ _ | .fc _ _ | .mn | .mp _ => by simp only [ofAV, Rc]
theorem RcL_of {F : Nat → Prop} {H : AH} : ∀ (l : List AV), RcL F H (ofAVL l) l
  | [] => by simp only [ofAVL, RcL]
  | v :: r => ⟨v, r, rfl, Rc_of v, RcL_of r⟩
end
theorem ofAVL_map : ∀ (l : List AV), ofAVL l = l.map ofAV
  | [] => rfl
  | v :: r => by simp only [ofAVL, List.map_cons, ofAVL_map r]
def pev (E : Nat → PV) : Opd → PV
  | .t n => E n
  | .k v => ofAV v
  | .f n => .fn (.func n) [] []
theorem Rp_ev {L : Lk} {H : AH} {E : Nat → PV} {Ea : Env} (h : ER L H E Ea) (x : Opd) : Rp L H (pev E x) (ev Ea x) := by
  cases x with
  | t n => exact h n
  | k v => exact Rc.p _ (Rc_of v)
  | f n => exact ⟨[], [], rfl, rfl, rfl⟩

/-! ### Scalars -/
mutual
def tv : PV → Option AV
  | .bo x => some (.bo x)
  | .it k n => some (.it k n)
  | .st x => some (.st x)
  | .np => some .np
  | .nf => some .nf
  | .ni => some .ni
  | .ag l => (tvL l).map .ag
  | _ => none
def tvL : List PV → Option (List AV)
  | [] => some []
  | v :: r => (tv v).bind fun a => (tvL r).map (a :: ·)
end
mutual
theorem tv_eq {L : Lk} {H : AH} : ∀ (v : PV) {a a' : AV}, Rp L H v a → tv v = some a' → a = a'
  | .bo _, _, _, h, h' | .it _ _, _, _, h, h' | .st _, _, _, h, h' | .np, _, _, h, h' | .nf, _, _, h, h' | .ni, _, _, h, h' => by
    simp only [Rp] at h; simp only [tv, Option.some.injEq] at h'; rw [h, h']
  | .ag l, _, _, ⟨l', h1, h2⟩, h' => by
    simp only [tv, Option.map_eq_some_iff] at h'
    obtain ⟨m, hm, rfl⟩ := h'
    rw [h1, tvL_eq l h2 hm]
  | .sn, _, _, _, h' | .dd, _, _, _, h' | .vs _ _ _, _, _, _, h' | .pe _ _, _, _, _, h' | .pt _ _, _, _, _, h' | .pg _ _ _ _, _, _, _, h' | .gr _, _, _, _, h' | .gp _ _ _ _, _, _, _, h'
  | .fn _ _ _, _, _, _, h' | .fc _ _, _, _, _, h' | .tu _, _, _, _, h' => by simp [tv] at h'
theorem tvL_eq {L : Lk} {H : AH} : ∀ (l : List PV) {as m : List AV}, RpL L H l as → tvL l = some m → as = m
  | [], _, _, h, h' => by
    simp only [RpL] at h; simp only [tvL, Option.some.injEq] at h'; rw [h, h']
  | v :: r, _, _, ⟨a, l', h1, h2, h3⟩, h' => by
    simp only [tvL, Option.bind_eq_some_iff, Option.map_eq_some_iff] at h'
    obtain ⟨b, hb, m', hm, rfl⟩ := h'
    rw [h1, tv_eq v h2 hb, tvL_eq r h3 hm]
end
/-- Is it nil? -/
def nilw : EqT → PV → Option Bool
  | .pt, .np => some true
  | .pt, .pt _ _ => some false
  | .pt, .pe _ _ => some false
  | .pt, .pg _ _ _ _ => some false
  | .sl, .sn => some true
  | .sl, .vs _ _ (_ :: _) => some false
  | .fn, .nf => some true
  | .fn, .fn _ _ _ => some false
  | .ic, .fc _ _ => some false
  | _, _ => none
def nilc : EqT → PV → Bool
  | .pt, .np => true
  | .sl, .sn => true
  | .fn, .nf => true
  | .ic, .ni => true
  | _, _ => false
def pnil (te : EqT) (x y : PV) : Option Bool := match nilc te y with | true => nilw te x | false => none
theorem pnil_veq {L : Lk} {H : AH} {te : EqT} {cn : Bool} {x y : PV} {a b : AV} {e : Bool} (hx : Rp L H x a) (hy : Rp L H y b) (h : pnil te x y = some e) : veq te cn a b = some e ∧ twoOf a b = false := by
  unfold pnil at h
  split at h
  · rename_i hn
    unfold nilc at hn
    split at hn <;> simp only [Bool.false_eq_true] at hn
    all_goals
      simp only [Rp] at hy
      subst hy
      unfold nilw at h
      split at h <;> simp only [Option.some.injEq, reduceCtorEq] at h <;> (try (rename_i hte; cases hte; done)) <;> subst h
    all_goals first
      | (simp only [Rp] at hx; subst hx; exact ⟨rfl, rfl⟩)
      | (obtain ⟨_, _, _, rfl⟩ := hx; exact ⟨rfl, rfl⟩)
      | (obtain ⟨_, _, _, rfl, _⟩ := hx; exact ⟨rfl, rfl⟩)
      | (obtain ⟨_, _, rfl, _⟩ := hx; exact ⟨rfl, rfl⟩)
      | (obtain ⟨_, rfl, _⟩ := hx; exact ⟨rfl, rfl⟩)
      | (obtain ⟨⟨_, h1, _⟩, _⟩ := hx
         cases h1 <;> exact ⟨rfl, rfl⟩)
      | skip
  · cases h
def pbin (op : BinOp) (te : EqT) (cn : Bool) : PV → PV → Option PV
  | .it k a, .it k' b => (vbin op te cn (.it k a) (.it k' b)).map ofAV
  | .bo a, .bo b => (vbin op te cn (.bo a) (.bo b)).map ofAV
  | .st a, .st b => (vbin op te cn (.st a) (.st b)).map ofAV
  | .ag l, .ag m => (tvL l).bind fun l => (tvL m).bind fun m => (vbin op te cn (.ag l) (.ag m)).map ofAV
  | x, y =>
    match op with
    | .eql => (pnil te x y).map .bo
    | .neq => (pnil te x y).map fun e => .bo (!e)
    | _ => none
theorem vbin_nil {op : BinOp} {te : EqT} {cn : Bool} {a b : AV} (ht : twoOf a b = false) : vbin op te cn a b = match op with | .eql => (veq te cn a b).map .bo | .neq => (veq te cn a b).map fun e => .bo (!e) | _ => none := by
  cases a <;> cases b <;> simp only [twoOf, Bool.true_eq_false] at ht <;> rfl
theorem pbin_ok {L : Lk} {H : AH} {op : BinOp} {te : EqT} {cn : Bool} {x y v : PV} {a b : AV} (hx : Rp L H x a) (hy : Rp L H y b) (h : pbin op te cn x y = some v) : ∃ c, vbin op te cn a b = some c ∧ Rp L H v c := by
  have fin : ∀ {a' b' : AV}, tv x = some a' → tv y = some b' → (vbin op te cn a' b').map ofAV = some v → ∃ c, vbin op te cn a b = some c ∧ Rp L H v c := by
    intro a' b' h1 h2 h3
    rw [tv_eq x hx h1, tv_eq y hy h2]
    obtain ⟨c, hc, rfl⟩ := Option.map_eq_some_iff.1 h3
    exact ⟨c, hc, Rc.p _ (Rc_of c)⟩
  unfold pbin at h
  split at h
  · exact fin rfl rfl h
  · exact fin rfl rfl h
  · exact fin rfl rfl h
  · simp only [Option.bind_eq_some_iff] at h
    obtain ⟨l, hl, m, hm, h⟩ := h
    exact fin (by simp only [tv, hl, Option.map_some]) (by simp only [tv, hm, Option.map_some]) h
  · split at h
    · obtain ⟨e, he, rfl⟩ := Option.map_eq_some_iff.1 h
      obtain ⟨h1, h2⟩ := pnil_veq (cn := cn) hx hy he
      exact ⟨.bo e, by rw [vbin_nil h2]; simp only [h1, Option.map_some], rfl⟩
    · obtain ⟨e, he, rfl⟩ := Option.map_eq_some_iff.1 h
      obtain ⟨h1, h2⟩ := pnil_veq (cn := cn) hx hy he
      exact ⟨.bo (!e), by rw [vbin_nil h2]; simp only [h1, Option.map_some], rfl⟩
    · cases h
def pun (op : UnOp) : PV → Option PV
  | .bo a => (vun op (.bo a)).map ofAV
  | .it k a => (vun op (.it k a)).map ofAV
  | _ => none
def pcvi (k : IntKind) : PV → Option PV
  | .it _ n => some (.it k (k.wrap n))
  | _ => none
def psub (l : List PV) (o n : Nat) : Option PV := if o + n ≤ l.length then some (.ag ((l.drop o).take n)) else none
def papart (l : List PV) (o n : Nat) (ag : Bool) : Option PV :=
  match ag with
  | true => psub l o n
  | false => l[o]?
theorem papart_ok {L : Lk} {H : AH} {l : List PV} {as : List AV} {o n : Nat} {ag : Bool} {v : PV} (h : RpL L H l as) (hv : papart l o n ag = some v) : ∃ c, apart as o n ag = some c ∧ Rp L H v c := by
  cases ag with
  | true =>
    simp only [papart, psub] at hv
    split at hv
    · rename_i hle
      simp only [Option.some.injEq] at hv; subst hv
      exact ⟨_, by simp only [apart]; rw [if_pos (by rw [h.len]; exact hle)], ⟨_, rfl, (h.drop o).take n⟩⟩
    · cases hv
  | false =>
    obtain ⟨a, h1, h2⟩ := h.get hv
    exact ⟨a, h1, h2⟩
def pfld (o n : Nat) (ag : Bool) : PV → Option PV
  | .ag l => papart l o n ag
  | _ => none
def pix (n es : Nat) (ag : Bool) : PV → PV → Option PV
  | .ag l, .it _ i => if 0 ≤ i ∧ i < n then papart l (i.toNat * es) es ag else none
  | _, _ => none
def pext (i : Nat) : PV → Option PV
  | .tu l => l[i]?
  | _ => none
def pfa (o : Nat) : PV → Option PV
  | .pt b p => some (.pt b (p + o))
  | .pe l p => some (.pe l (p + o))
  | .pg es b i p => some (.pg es b i (p + o))
  | _ => none
def piaa (n es : Nat) : PV → PV → Option PV
  | x, .it _ i => if 0 ≤ i ∧ i < n then pfa (i.toNat * es) x else none
  | _, _ => none
def pnilc : PV → Option PV
  | .pt b o => some (.pt b o)
  | .pe l o => some (.pe l o)
  | .pg es b i o => some (.pg es b i o)
  | .fn (.func f) a c => some (.fn (.func f) a c)
  | _ => none
def pmm2 (mx : Bool) : PV → PV → Option PV
  | .it k x, .it _ y => some (.it k (match mx with | true => if y > x then y else x | false => if y < x then y else x))
  | _, _ => none
def pmmL (mx : Bool) : PV → List PV → Option PV
  | a, [] => some a
  | a, b :: r => (pmm2 mx a b).bind fun c => pmmL mx c r
def ppick : PV → PV → PV → Option PV
  | .bo c, a, b => some (bif c then a else b)
  | _, _, _ => none
def pfill (E : Nat → PV) : List PV → List Part → Option (List PV)
  | cs, [] => some cs
  | cs, p :: r => (pev E p.x).cl.bind fun m => if m.length = p.n ∧ p.o + p.n ≤ cs.length then pfill E (cs.take p.o ++ (m ++ cs.drop (p.o + p.n))) r else none
def pbnd (E : Nat → PV) (d : Nat) (top : Nat) : Option Opd → Option Nat
  | none => some d
  | some x => match pev E x with | .it _ i => if 0 ≤ i ∧ i ≤ top then some i.toNat else none | _ => none

section
variable {L : Lk} {H : AH} {E : Nat → PV} {Ea : Env}
theorem pun_ok {op : UnOp} {x v : PV} {a : AV} (hx : Rp L H x a) (h : pun op x = some v) : ∃ c, vun op a = some c ∧ Rp L H v c := by
  cases x <;> simp only [pun, reduceCtorEq, Option.map_eq_some_iff] at h <;> (simp only [Rp] at hx; subst hx; obtain ⟨c, hc, rfl⟩ := h; exact ⟨c, hc, Rc.p _ (Rc_of c)⟩)
theorem pcvi_ok {k : IntKind} {x v : PV} {a : AV} (hx : Rp L H x a) (h : pcvi k x = some v) : ∃ c, vcvi k a = some c ∧ Rp L H v c := by
  cases x <;> simp only [pcvi, reduceCtorEq, Option.some.injEq] at h
  simp only [Rp] at hx; subst hx; subst h
  exact ⟨_, rfl, rfl⟩
theorem pfld_ok {o n : Nat} {ag : Bool} {x v : PV} {a : AV} (hx : Rp L H x a) (h : pfld o n ag x = some v) : ∃ c, vfld o n ag a = some c ∧ Rp L H v c := by
  cases x <;> simp only [pfld, reduceCtorEq] at h
  obtain ⟨l', rfl, h2⟩ := hx
  exact papart_ok h2 h
theorem pix_ok {n es : Nat} {ag : Bool} {x y v : PV} {a b : AV} (hx : Rp L H x a) (hy : Rp L H y b) (h : pix n es ag x y = some v) : ∃ c, vix n es ag a b = some c ∧ Rp L H v c := by
  cases x <;> cases y <;> simp only [pix, reduceCtorEq] at h
  obtain ⟨l', rfl, h2⟩ := hx
  simp only [Rp] at hy; subst hy
  split at h
  · rename_i hi
    simp only [vix]
    rw [if_pos hi]
    exact papart_ok h2 h
  · cases h
theorem pext_ok {i : Nat} {x v : PV} {a : AV} (hx : Rp L H x a) (h : pext i x = some v) : ∃ c, vext i a = some c ∧ Rp L H v c := by
  cases x <;> simp only [pext, reduceCtorEq] at h
  obtain ⟨l', rfl, h2⟩ := hx
  exact h2.get h
theorem pfa_ok {o : Nat} {x v : PV} {a : AV} (hx : Rp L H x a) (h : pfa o x = some v) : ∃ b p, a = .pt b p ∧ Rp L H v (.pt b (p + o)) := by
  cases x <;> simp only [pfa, reduceCtorEq, Option.some.injEq] at h <;> subst h
  · obtain ⟨B, q, cs, rfl, h2, h3⟩ := hx
    exact ⟨_, _, rfl, B, q, cs, by rw [Nat.add_assoc], h2, h3⟩
  · obtain ⟨h0, B, h1, rfl⟩ := hx
    exact ⟨_, _, rfl, h0, B, h1, rfl⟩
  · obtain ⟨h0, B, h1, rfl⟩ := hx
    exact ⟨_, _, rfl, h0, B, h1, by rw [Nat.add_assoc]⟩
theorem piaa_ok {n es : Nat} {x y v : PV} {a b : AV} (hx : Rp L H x a) (hy : Rp L H y b) (h : piaa n es x y = some v) : ∃ c, viaa n es a b = some c ∧ Rp L H v c := by
  cases y <;> simp only [piaa, reduceCtorEq] at h
  simp only [Rp] at hy; subst hy
  split at h
  · rename_i hi
    obtain ⟨b, p, rfl, h2⟩ := pfa_ok hx h
    exact ⟨_, by simp only [viaa]; rw [if_pos hi], h2⟩
  · cases h
theorem pnilc_ok {x v : PV} {a : AV} (hx : Rp L H x a) (h : pnilc x = some v) : ∃ c, vnilc a = some c ∧ Rp L H v c := by
  unfold pnilc at h
  split at h <;> simp only [Option.some.injEq, reduceCtorEq] at h <;> subst h
  · have hx' := hx
    obtain ⟨h0, B, h1, rfl⟩ := hx
    exact ⟨_, rfl, hx'⟩
  · have hx' := hx
    obtain ⟨B, q, cs, rfl, h2, h3⟩ := hx
    exact ⟨_, rfl, hx'⟩
  · have hx' := hx
    obtain ⟨h0, B, h1, rfl⟩ := hx
    exact ⟨_, rfl, hx'⟩
  · have hx' := hx
    obtain ⟨p', c', rfl, h2⟩ := hx
    exact ⟨_, rfl, hx'⟩
theorem pmm2_ok {mx : Bool} {x y v : PV} {a b : AV} (hx : Rp L H x a) (hy : Rp L H y b) (h : pmm2 mx x y = some v) : ∃ c, mm2 mx a b = some c ∧ Rp L H v c := by
  cases x <;> cases y <;> simp only [pmm2, reduceCtorEq, Option.some.injEq] at h
  simp only [Rp] at hx hy; subst hx; subst hy; subst h
  exact ⟨_, rfl, rfl⟩
theorem pmmL_ok {mx : Bool} : ∀ {ys : List PV} {bs : List AV} {x v : PV} {a : AV}, Rp L H x a → RpL L H ys bs → pmmL mx x ys = some v → ∃ c, mmL mx a bs = some c ∧ Rp L H v c
  | [], _, x, v, a, hx, hy, h => by
    simp only [RpL] at hy; subst hy
    simp only [pmmL, Option.some.injEq] at h; subst h
    exact ⟨a, rfl, hx⟩
  | y :: r, _, x, v, a, hx, ⟨b, bs, h1, h2, h3⟩, h => by
    subst h1
    simp only [pmmL, Option.bind_eq_some_iff] at h
    obtain ⟨u, hu, h⟩ := h
    obtain ⟨c, hc, hr⟩ := pmm2_ok hx h2 hu
    obtain ⟨d, hd, hr'⟩ := pmmL_ok hr h3 h
    exact ⟨d, by simp only [mmL, hc, Option.bind_some, hd], hr'⟩
theorem RpL_map (h : ER L H E Ea) : ∀ (xs : List Opd), RpL L H (xs.map (pev E)) (xs.map (ev Ea))
  | [] => by simp [RpL]
  | x :: r => ⟨_, _, rfl, Rp_ev h x, RpL_map h r⟩
theorem pfill_ok (h : ER L H E Ea) : ∀ (ps : List Part) {cs l : List PV} {as : List AV}, RpL L H cs as → pfill E cs ps = some l → ∃ l', vfill Ea as ps = some l' ∧ RpL L H l l'
  | [], cs, l, as, hc, hl => by
    simp only [pfill, Option.some.injEq] at hl; subst hl
    exact ⟨as, rfl, hc⟩
  | p :: r, cs, l, as, hc, hl => by
    simp only [pfill, Option.bind_eq_some_iff] at hl
    obtain ⟨m, hm, hl⟩ := hl
    obtain ⟨m', hm', hr⟩ := (Rp_ev h p.x).cl hm
    split at hl
    · rename_i hcnd
      obtain ⟨l', h1, h2⟩ := pfill_ok h r ((hc.take p.o).app (hr.app (hc.drop (p.o + p.n)))) hl
      refine ⟨l', ?_, h2⟩
      simp only [vfill, hm', Option.bind_some]
      rw [if_pos (by rw [hr.len, hc.len]; exact hcnd)]
      unfold splice
      rw [hr.len, hcnd.1]
      exact h1
    · cases hl
theorem pbnd_ok (h : ER L H E Ea) {d top k : Nat} {x : Option Opd} (hb : pbnd E d top x = some k) : bnd Ea d top x = some k := by
  cases x with
  | none => exact hb
  | some x =>
    have hr := Rp_ev h x
    simp only [pbnd] at hb
    simp only [bnd]
    split at hb
    · rename_i k' i he
      rw [he] at hr
      simp only [Rp] at hr
      rw [hr]
      exact hb
    · cases hb
end
end Go.AX
