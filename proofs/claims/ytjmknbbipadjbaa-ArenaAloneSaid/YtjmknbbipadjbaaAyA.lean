/- AY, part A: values told with what their slices hold, over the abstract heap; what they stand for. -/
import Derived.Test.YtjmknbbipadjbaaAxW
set_option linter.unusedSimpArgs false
set_option linter.unusedVariables false
namespace Go.AX
open Go

/-- A value: slices that stay as they are by what they hold; blocks that are owned by names. -/
inductive PV where
  | bo (x : Bool)
  | it (k : IntKind) (n : Int)
  | st (x : ByteArray)
  | np
  | nf
  | ni
  | sn
  | dd
  | vs (w es : Nat) (l : List PV)
  | pe (l : List PV) (o : Nat)
  | pt (b o : Nat)
  | pg (es b i o : Nat)
  | gr (b : Nat)
  | gp (es b lo n : Nat)
  | fn (f : Fn) (a c : List PV)
  | fc (t : TypeId) (v : PV)
  | ag (l : List PV)
  | tu (l : List PV)
  deriving Inhabited

def AV.bk : AV → Option Nat
  | .pt b _ => some b
  | .sl b _ _ _ => some b
  | .sg b _ _ _ _ => some b
  | _ => none
def capd (a : AV) (n : Nat) : Prop := a = .sn ∨ ∃ b o, a = .sl b o n n
/-- It may be cut with a bound. -/
def goods (a : AV) : Prop := ∀ b o q n e, a = .sg b o q n e → o = q
def slF (F : Nat → Prop) (a : AV) : Prop := ∀ b, a.bk = some b → F b

/-- Cells of a block, from one on. -/
def Rd (H : AH) (B q : Nat) (cs : List AV) : Prop := (∀ (i : Nat) v, cs[i]? = some v → (H.g B).cells[q + i]? = some v) ∧ q + cs.length ≤ (H.g B).cells.length

mutual
/-- What a value that names no block stands for: all that it reads stays. -/
def Rc (F : Nat → Prop) (H : AH) : PV → AV → Prop
  | .bo x, a => a = .bo x
  | .it k n, a => a = .it k n
  | .st x, a => a = .st x
  | .np, a => a = .np
  | .nf, a => a = .nf
  | .ni, a => a = .ni
  | .sn, a => a = .sn
  | .dd, _ => True
  | .vs w es l, a => (∃ cs, Sl H es a l.length cs ∧ slF F a ∧ RcE F H es l cs) ∧ (1 ≤ w → goods a) ∧ (2 ≤ w → capd a l.length)
  | .pe l o, a => ∃ B q cs, a = .pt B (q + o) ∧ F B ∧ Rd H B q cs ∧ RcL F H l cs
  | .fn f p c, a => ∃ p' c', a = .fn f p' c' ∧ RcL F H p p' ∧ RcL F H c c'
  | .fc t v, a => ∃ v', a = .fc t v' ∧ Rc F H v v'
  | .ag l, a => ∃ l', a = .ag l' ∧ RcL F H l l'
  | .tu l, a => ∃ l', a = .tu l' ∧ RcL F H l l'
  | _, _ => False
def RcL (F : Nat → Prop) (H : AH) : List PV → List AV → Prop
  | [], l => l = []
  | v :: r, l => ∃ a l', l = a :: l' ∧ Rc F H v a ∧ RcL F H r l'
def RcE (F : Nat → Prop) (H : AH) (es : Nat) : List PV → List AV → Prop
  | [], cs => cs = []
  | v :: r, cs => ∃ a c cs', Rc F H v a ∧ a.cl = some c ∧ c.length = es ∧ cs = c ++ cs' ∧ RcE F H es r cs'
end

/-- A part of a slice that is owned. -/
def gpR (F : Nat → Prop) (H : AH) (es : Nat) (w : AV) (lo n : Nat) (a : AV) : Prop :=
  (n = 0 ∧ Rc F H (.vs 0 es []) a) ∨ ∃ B, w.bk = some B ∧ ((∃ o c, a = .sl B o n c ∧ n ≤ c ∧ ((n = 0 ∧ o ≤ lo * es) ∨ o = lo * es)) ∨ (∃ o q n0, a = .sg B o q n es ∧ 0 < es ∧ o = lo * es ∧ w = .sg B 0 0 n0 es))

/-- How names lie in the heap: so many, where, and which blocks stay. -/
structure Lk where
  n : Nat
  m : Nat → AV
  F : Nat → Prop

mutual
def Rp (L : Lk) (H : AH) : PV → AV → Prop
  | .pt b o, a => b < L.n ∧ ∃ B, L.m b = .pt B 0 ∧ a = .pt B o
  | .pg es b i o, a => b < L.n ∧ ∃ B, (L.m b).bk = some B ∧ a = .pt B (i * es + o)
  | .gr b, a => b < L.n ∧ a = L.m b ∧ a.cl = some [a]
  | .gp es b lo n, a => b < L.n ∧ gpR L.F H es (L.m b) lo n a
  | .fn f p c, a => ∃ p' c', a = .fn f p' c' ∧ RpL L H p p' ∧ RpL L H c c'
  | .fc t v, a => ∃ v', a = .fc t v' ∧ Rp L H v v'
  | .ag l, a => ∃ l', a = .ag l' ∧ RpL L H l l'
  | .tu l, a => ∃ l', a = .tu l' ∧ RpL L H l l'
  | .bo x, a => a = .bo x
  | .it k n, a => a = .it k n
  | .st x, a => a = .st x
  | .np, a => a = .np
  | .nf, a => a = .nf
  | .ni, a => a = .ni
  | .sn, a => a = .sn
  | .dd, _ => True
  | .vs w es l, a => Rc L.F H (.vs w es l) a
  | .pe l o, a => Rc L.F H (.pe l o) a
def RpL (L : Lk) (H : AH) : List PV → List AV → Prop
  | [], l => l = []
  | v :: r, l => ∃ a l', l = a :: l' ∧ Rp L H v a ∧ RpL L H r l'
end

theorem Sl.keep {H H' : AH} {es n : Nat} {v : AV} {l : List AV} (h : Sl H es v n l) (hn : H.nx ≤ H'.nx) (hg : ∀ b, v.bk = some b → H'.g b = H.g b) : Sl H' es v n l := by
  cases h with
  | sn => exact .sn
  | sl h1 h2 h3 h4 h5 => have e := hg _ rfl; exact .sl (Nat.lt_of_lt_of_le h1 hn) (by rw [e]; exact h2) (by rw [e]; exact h3) h4 h5
  | sg h1 h2 h3 h4 h5 h6 => have e := hg _ rfl; exact .sg (Nat.lt_of_lt_of_le h1 hn) (by rw [e]; exact h2) (by rw [e]; exact h3) (by rw [e]; exact h4) h5 h6

/-- What stays, stays. -/
structure Stay (F : Nat → Prop) (H : AH) (F' : Nat → Prop) (H' : AH) : Prop where
  nx : H.nx ≤ H'.nx
  sF : ∀ b, F b → F' b
  g : ∀ b, F b → H'.g b = H.g b
theorem Stay.refl {F : Nat → Prop} {H : AH} : Stay F H F H := ⟨Nat.le_refl _, fun _ h => h, fun _ _ => rfl⟩
theorem Stay.trans {F F1 F2 : Nat → Prop} {H H1 H2 : AH} (a : Stay F H F1 H1) (b : Stay F1 H1 F2 H2) : Stay F H F2 H2 :=
  ⟨Nat.le_trans a.nx b.nx, fun x h => b.sF x (a.sF x h), fun x h => (b.g x (a.sF x h)).trans (a.g x h)⟩

mutual
theorem Rc.mono {F F' : Nat → Prop} {H H' : AH} (s : Stay F H F' H') : ∀ (v : PV) {a : AV}, Rc F H v a → Rc F' H' v a
  | .bo _, _, h | .it _ _, _, h | .st _, _, h | .np, _, h | .nf, _, h | .ni, _, h | .sn, _, h => h
  | .dd, _, _ => trivial
  | .vs w es l, _, ⟨⟨cs, h1, h2, h3⟩, h4⟩ => ⟨⟨cs, h1.keep s.nx fun b hb => s.g b (h2 b hb), fun b hb => s.sF b (h2 b hb), RcE.mono s es l h3⟩, h4⟩
  | .pe l o, _, ⟨B, q, cs, h1, h2, h3, h4⟩ => ⟨B, q, cs, h1, s.sF B h2, by unfold Rd; rw [s.g B h2]; exact h3, RcL.mono s l h4⟩
  | .fn f p c, _, ⟨p', c', h1, h2, h3⟩ => ⟨p', c', h1, RcL.mono s p h2, RcL.mono s c h3⟩
  | .fc t v, _, ⟨v', h1, h2⟩ => ⟨v', h1, Rc.mono s v h2⟩
  | .ag l, _, ⟨l', h1, h2⟩ => ⟨l', h1, RcL.mono s l h2⟩
  | .tu l, _, ⟨l', h1, h2⟩ => ⟨l', h1, RcL.mono s l h2⟩
  | .pt _ _, _, h | .pg _ _ _ _, _, h | .gr _, _, h | .gp _ _ _ _, _, h => h.elim
theorem RcL.mono {F F' : Nat → Prop} {H H' : AH} (s : Stay F H F' H') : ∀ (l : List PV) {as : List AV}, RcL F H l as → RcL F' H' l as
  | [], _, h => h
  | v :: r, _, ⟨a, l', h1, h2, h3⟩ => ⟨a, l', h1, Rc.mono s v h2, RcL.mono s r h3⟩
theorem RcE.mono {F F' : Nat → Prop} {H H' : AH} (s : Stay F H F' H') (es : Nat) : ∀ (l : List PV) {as : List AV}, RcE F H es l as → RcE F' H' es l as
  | [], _, h => h
  | v :: r, _, ⟨a, c, cs', h1, h2, h3, h4, h5⟩ => ⟨a, c, cs', Rc.mono s v h1, h2, h3, h4, RcE.mono s es r h5⟩
end

/-- Names stay where they lie. -/
structure Keep (L : Lk) (H : AH) (L' : Lk) (H' : AH) : Prop where
  st : Stay L.F H L'.F H'
  n : L.n ≤ L'.n
  m : ∀ b, b < L.n → L'.m b = L.m b
theorem Keep.refl {L : Lk} {H : AH} : Keep L H L H := ⟨.refl, Nat.le_refl _, fun _ _ => rfl⟩
theorem Keep.trans {L L1 L2 : Lk} {H H1 H2 : AH} (a : Keep L H L1 H1) (b : Keep L1 H1 L2 H2) : Keep L H L2 H2 :=
  ⟨a.st.trans b.st, Nat.le_trans a.n b.n, fun x h => (b.m x (Nat.lt_of_lt_of_le h a.n)).trans (a.m x h)⟩

mutual
theorem Rp.mono {L L' : Lk} {H H' : AH} (s : Keep L H L' H') : ∀ (v : PV) {a : AV}, Rp L H v a → Rp L' H' v a
  | .bo _, _, h | .it _ _, _, h | .st _, _, h | .np, _, h | .nf, _, h | .ni, _, h | .sn, _, h => h
  | .dd, _, _ => trivial
  | .vs w es l, _, h => Rc.mono s.st (.vs w es l) h
  | .pe l o, _, h => Rc.mono s.st (.pe l o) h
  | .fn f p c, _, ⟨p', c', h1, h2, h3⟩ => ⟨p', c', h1, RpL.mono s p h2, RpL.mono s c h3⟩
  | .fc t v, _, ⟨v', h1, h2⟩ => ⟨v', h1, Rp.mono s v h2⟩
  | .ag l, _, ⟨l', h1, h2⟩ => ⟨l', h1, RpL.mono s l h2⟩
  | .tu l, _, ⟨l', h1, h2⟩ => ⟨l', h1, RpL.mono s l h2⟩
  | .pt b o, _, ⟨h0, h⟩ => ⟨Nat.lt_of_lt_of_le h0 s.n, by rw [s.m b h0]; exact h⟩
  | .pg es b i o, _, ⟨h0, h⟩ => ⟨Nat.lt_of_lt_of_le h0 s.n, by rw [s.m b h0]; exact h⟩
  | .gr b, _, ⟨h0, h⟩ => ⟨Nat.lt_of_lt_of_le h0 s.n, by rw [s.m b h0]; exact h⟩
  | .gp es b lo n, _, ⟨h0, h⟩ => ⟨Nat.lt_of_lt_of_le h0 s.n, by rw [s.m b h0]; exact h.imp (fun h => ⟨h.1, Rc.mono s.st _ h.2⟩) id⟩
theorem RpL.mono {L L' : Lk} {H H' : AH} (s : Keep L H L' H') : ∀ (l : List PV) {as : List AV}, RpL L H l as → RpL L' H' l as
  | [], _, h => h
  | v :: r, _, ⟨a, l', h1, h2, h3⟩ => ⟨a, l', h1, Rp.mono s v h2, RpL.mono s r h3⟩
end
mutual
theorem Rc.p {L : Lk} {H : AH} : ∀ (v : PV) {a : AV}, Rc L.F H v a → Rp L H v a
  | .bo _, _, h | .it _ _, _, h | .st _, _, h | .np, _, h | .nf, _, h | .ni, _, h | .sn, _, h => h
  | .dd, _, _ => trivial
  | .vs _ _ _, _, h | .pe _ _, _, h => h
  | .fn f p c, _, ⟨p', c', h1, h2, h3⟩ => ⟨p', c', h1, RcL.p p h2, RcL.p c h3⟩
  | .fc t v, _, ⟨v', h1, h2⟩ => ⟨v', h1, Rc.p v h2⟩
  | .ag l, _, ⟨l', h1, h2⟩ => ⟨l', h1, RcL.p l h2⟩
  | .tu l, _, ⟨l', h1, h2⟩ => ⟨l', h1, RcL.p l h2⟩
  | .pt _ _, _, h | .pg _ _ _ _, _, h | .gr _, _, h | .gp _ _ _ _, _, h => h.elim
theorem RcL.p {L : Lk} {H : AH} : ∀ (l : List PV) {as : List AV}, RcL L.F H l as → RpL L H l as
  | [], _, h => h
  | v :: r, _, ⟨a, l', h1, h2, h3⟩ => ⟨a, l', h1, Rc.p v h2, RcL.p r h3⟩
end

/-- Does it name no block? -/
def PV.lit : PV → Bool
  | .bo _ | .it _ _ | .st _ | .np | .nf | .ni | .sn | .vs _ _ _ | .pe _ _ | .dd => true
  | _ => false
mutual
def PV.cld : PV → Bool
  | .bo _ | .it _ _ | .st _ | .np | .nf | .ni | .sn | .vs _ _ _ | .pe _ _ | .dd => true
  | .pt _ _ | .pg _ _ _ _ | .gr _ | .gp _ _ _ _ => false
  | .fn _ p c => PV.cldL p && PV.cldL c
  | .fc _ v => v.cld
  | .ag l => PV.cldL l
  | .tu l => PV.cldL l
def PV.cldL : List PV → Bool
  | [] => true
  | v :: r => v.cld && PV.cldL r
end
mutual
theorem Rp.c {L : Lk} {H : AH} : ∀ (v : PV) {a : AV}, v.cld = true → Rp L H v a → Rc L.F H v a
  | .bo _, _, _, h | .it _ _, _, _, h | .st _, _, _, h | .np, _, _, h | .nf, _, _, h | .ni, _, _, h | .sn, _, _, h => h
  | .dd, _, _, _ => trivial
  | .vs _ _ _, _, _, h | .pe _ _, _, _, h => h
  | .fn f p c, _, hc, ⟨p', c', h1, h2, h3⟩ => by
    simp only [PV.cld, Bool.and_eq_true] at hc
    exact ⟨p', c', h1, RpL.c p hc.1 h2, RpL.c c hc.2 h3⟩
  | .fc t v, _, hc, ⟨v', h1, h2⟩ => by
    simp only [PV.cld] at hc
    exact ⟨v', h1, Rp.c v hc h2⟩
  | .ag l, _, hc, ⟨l', h1, h2⟩ => by
    simp only [PV.cld] at hc
    exact ⟨l', h1, RpL.c l hc h2⟩
  | .tu l, _, hc, ⟨l', h1, h2⟩ => by
    simp only [PV.cld] at hc
    exact ⟨l', h1, RpL.c l hc h2⟩
  | .pt _ _, _, hc, _ | .pg _ _ _ _, _, hc, _ | .gr _, _, hc, _ | .gp _ _ _ _, _, hc, _ => by simp [PV.cld] at hc
theorem RpL.c {L : Lk} {H : AH} : ∀ (l : List PV) {as : List AV}, PV.cldL l = true → RpL L H l as → RcL L.F H l as
  | [], _, _, h => h
  | v :: r, _, hc, ⟨a, l', h1, h2, h3⟩ => by
    simp only [PV.cldL, Bool.and_eq_true] at hc
    exact ⟨a, l', h1, Rp.c v hc.1 h2, RpL.c r hc.2 h3⟩
end

/-! ### Lists -/
theorem RpL.len {L : Lk} {H : AH} : ∀ {l : List PV} {as : List AV}, RpL L H l as → as.length = l.length
  | [], _, h => by simp only [RpL] at h; subst h; rfl
  | v :: r, _, ⟨a, l', h1, h2, h3⟩ => by subst h1; simp [RpL.len h3]
theorem RpL.get {L : Lk} {H : AH} : ∀ {l : List PV} {as : List AV} {i : Nat} {v : PV}, RpL L H l as → l[i]? = some v → ∃ a, as[i]? = some a ∧ Rp L H v a
  | [], _, _, _, _, h => by simp at h
  | x :: r, _, 0, v, ⟨a, l', h1, h2, h3⟩, h => by
    simp only [List.getElem?_cons_zero, Option.some.injEq] at h
    subst h; subst h1
    exact ⟨a, rfl, h2⟩
  | x :: r, _, i + 1, v, ⟨a, l', h1, h2, h3⟩, h => by
    simp only [List.getElem?_cons_succ] at h
    subst h1
    obtain ⟨a', h4, h5⟩ := h3.get h
    exact ⟨a', by simpa using h4, h5⟩
theorem RpL.app {L : Lk} {H : AH} : ∀ {l m : List PV} {as bs : List AV}, RpL L H l as → RpL L H m bs → RpL L H (l ++ m) (as ++ bs)
  | [], _, _, _, h, h' => by simp only [RpL] at h; subst h; exact h'
  | v :: r, _, _, _, ⟨a, l', h1, h2, h3⟩, h' => by subst h1; exact ⟨a, _, rfl, h2, h3.app h'⟩
theorem RpL.take {L : Lk} {H : AH} : ∀ {l : List PV} {as : List AV} (n : Nat), RpL L H l as → RpL L H (l.take n) (as.take n)
  | [], _, n, h => by simp only [RpL] at h; subst h; simp [RpL]
  | v :: r, _, 0, ⟨a, l', h1, h2, h3⟩ => by simp [RpL]
  | v :: r, _, n + 1, ⟨a, l', h1, h2, h3⟩ => by subst h1; exact ⟨a, _, rfl, h2, h3.take n⟩
theorem RpL.drop {L : Lk} {H : AH} : ∀ {l : List PV} {as : List AV} (n : Nat), RpL L H l as → RpL L H (l.drop n) (as.drop n)
  | [], _, n, h => by simp only [RpL] at h; subst h; simp [RpL]
  | v :: r, _, 0, h => h
  | v :: r, _, n + 1, ⟨a, l', h1, h2, h3⟩ => by subst h1; exact h3.drop n
theorem RcL.len {F : Nat → Prop} {H : AH} : ∀ {l : List PV} {as : List AV}, RcL F H l as → as.length = l.length
  | [], _, h => by simp only [RcL] at h; subst h; rfl
  | v :: r, _, ⟨a, l', h1, h2, h3⟩ => by subst h1; simp [RcL.len h3]
theorem RcL.get {F : Nat → Prop} {H : AH} : ∀ {l : List PV} {as : List AV} {i : Nat} {v : PV}, RcL F H l as → l[i]? = some v → ∃ a, as[i]? = some a ∧ Rc F H v a
  | [], _, _, _, _, h => by simp at h
  | x :: r, _, 0, v, ⟨a, l', h1, h2, h3⟩, h => by
    simp only [List.getElem?_cons_zero, Option.some.injEq] at h
    subst h; subst h1
    exact ⟨a, rfl, h2⟩
  | x :: r, _, i + 1, v, ⟨a, l', h1, h2, h3⟩, h => by
    simp only [List.getElem?_cons_succ] at h
    subst h1
    obtain ⟨a', h4, h5⟩ := h3.get h
    exact ⟨a', by simpa using h4, h5⟩
theorem RcL.app {F : Nat → Prop} {H : AH} : ∀ {l m : List PV} {as bs : List AV}, RcL F H l as → RcL F H m bs → RcL F H (l ++ m) (as ++ bs)
  | [], _, _, _, h, h' => by simp only [RcL] at h; subst h; exact h'
  | v :: r, _, _, _, ⟨a, l', h1, h2, h3⟩, h' => by subst h1; exact ⟨a, _, rfl, h2, h3.app h'⟩
theorem RcL.take {F : Nat → Prop} {H : AH} : ∀ {l : List PV} {as : List AV} (n : Nat), RcL F H l as → RcL F H (l.take n) (as.take n)
  | [], _, n, h => by simp only [RcL] at h; subst h; simp [RcL]
  | v :: r, _, 0, ⟨a, l', h1, h2, h3⟩ => by simp [RcL]
  | v :: r, _, n + 1, ⟨a, l', h1, h2, h3⟩ => by subst h1; exact ⟨a, _, rfl, h2, h3.take n⟩
theorem RcL.drop {F : Nat → Prop} {H : AH} : ∀ {l : List PV} {as : List AV} (n : Nat), RcL F H l as → RcL F H (l.drop n) (as.drop n)
  | [], _, n, h => by simp only [RcL] at h; subst h; simp [RcL]
  | v :: r, _, 0, h => h
  | v :: r, _, n + 1, ⟨a, l', h1, h2, h3⟩ => by subst h1; exact h3.drop n

/-- A value's cells. -/
def PV.cl : PV → Option (List PV)
  | .ag l => some l
  | .tu _ => none
  | .dd => none
  | v => some [v]
theorem Rp.cl {L : Lk} {H : AH} {v : PV} {a : AV} {l : List PV} (h : Rp L H v a) (hl : v.cl = some l) : ∃ c, a.cl = some c ∧ RpL L H l c := by
  cases v <;> simp only [PV.cl, Option.some.injEq, reduceCtorEq] at hl <;> subst hl
  case ag l => obtain ⟨l', rfl, h2⟩ := h; exact ⟨l', rfl, h2⟩
  all_goals refine ⟨[a], ?_, ⟨a, [], rfl, h, rfl⟩⟩
  case vs => obtain ⟨⟨cs, h1, _⟩, _⟩ := h; exact h1.cl
  case pe => obtain ⟨_, _, _, rfl, _⟩ := h; rfl
  case fn => obtain ⟨_, _, rfl, _⟩ := h; rfl
  case fc => obtain ⟨_, rfl, _⟩ := h; rfl
  case pt => obtain ⟨_, _, _, rfl⟩ := h; rfl
  case pg => obtain ⟨_, _, _, rfl⟩ := h; rfl
  all_goals first
    | (simp only [Rp] at h; subst h; rfl)
    | skip
  case gp =>
    obtain ⟨_, ⟨_, ⟨_, h, _⟩, _⟩ | ⟨_, _, ⟨_, _, h, _⟩ | ⟨_, _, _, h, _⟩⟩⟩ := h
    · exact h.cl
    · rw [h]; rfl
    · rw [h]; rfl
  case gr => exact h.2.2
end Go.AX
