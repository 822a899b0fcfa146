/- Parts: AyA AyB AyC AyD AyE AyF AyG AyH AyI AyJ AyK. -/
import Derived.Test.YtbflhammcjihgaaGreatGxB
set_option linter.unusedSimpArgs false
set_option linter.unusedVariables false
section
namespace Go.AX
open Go
inductive PV where
 | bo (x : Bool)
 | it (k : IntKind) (n : Int)
 | st (x : ByteArray)
 | np
 | nf
 | ni
 | sn
 | dd
 | vs (w es : Nat) (l : List PV)
 | pe (l : List PV) (o : Nat)
 | pt (b o : Nat)
 | pg (es b i o : Nat)
 | gr (b : Nat)
 | gp (es b lo n : Nat)
 | fn (f : Fn) (a c : List PV)
 | fc (t : TypeId) (v : PV)
 | ag (l : List PV)
 | tu (l : List PV)
 deriving Inhabited
def AV.bk : AV → Option Nat
 | .pt b _ => some b
 | .sl b _ _ _ => some b
 | .sg b _ _ _ _ => some b
 | .mp b => some b
 | _ => none
def capd (a : AV) (n : Nat) : Prop := a = .sn ∨ ∃ b o, a = .sl b o n n
def goods (a : AV) : Prop := ∀ b o q n e, a = .sg b o q n e → o = q
def slF (F : Nat → Prop) (a : AV) : Prop := ∀ b, a.bk = some b → F b
def Rd (H : AH) (B q : Nat) (cs : List AV) : Prop := (∀ (i : Nat) v, cs[i]? = some v → (H.g B).cells[q + i]? = some v) ∧ q + cs.length ≤ (H.g B).cells.length
mutual
def Rc (F : Nat → Prop) (H : AH) : PV → AV → Prop
 | .bo x, a => a = .bo x
 | .it k n, a => a = .it k n
 | .st x, a => a = .st x
 | .np, a => a = .np
 | .nf, a => a = .nf
 | .ni, a => a = .ni
 | .sn, a => a = .sn
 | .dd, _ => True
 | .vs w es l, a => (∃ cs, Sl H es a l.length cs ∧ slF F a ∧ RcE F H es l cs) ∧ (1 ≤ w → goods a) ∧ (2 ≤ w → capd a l.length)
 | .pe l o, a => ∃ B q cs, a = .pt B (q + o) ∧ F B ∧ Rd H B q cs ∧ RcL F H l cs
 | .fn f p c, a => ∃ p' c', a = .fn f p' c' ∧ RcL F H p p' ∧ RcL F H c c'
 | .fc t v, a => ∃ v', a = .fc t v' ∧ Rc F H v v'
 | .ag l, a => ∃ l', a = .ag l' ∧ RcL F H l l'
 | .tu l, a => ∃ l', a = .tu l' ∧ RcL F H l l'
 | _, _ => False
def RcL (F : Nat → Prop) (H : AH) : List PV → List AV → Prop
 | [], l => l = []
 | v :: r, l => ∃ a l', l = a :: l' ∧ Rc F H v a ∧ RcL F H r l'
def RcE (F : Nat → Prop) (H : AH) (es : Nat) : List PV → List AV → Prop
 | [], cs => cs = []
 | v :: r, cs => ∃ a c cs', Rc F H v a ∧ a.cl = some c ∧ c.length = es ∧ cs = c ++ cs' ∧ RcE F H es r cs'
end
def gpR (F : Nat → Prop) (H : AH) (es : Nat) (w : AV) (lo n : Nat) (a : AV) : Prop :=
 (n = 0 ∧ Rc F H (.vs 0 es []) a) ∨ ∃ B, w.bk = some B ∧ ((∃ o c, a = .sl B o n c ∧ n ≤ c ∧ ((n = 0 ∧ o ≤ lo * es) ∨ o = lo * es)) ∨ (∃ o q n0, a = .sg B o q n es ∧ 0 < es ∧ o = lo * es ∧ w = .sg B 0 0 n0 es))
structure Lk where
 n : Nat
 m : Nat → AV
 F : Nat → Prop
mutual
def Rp (L : Lk) (H : AH) : PV → AV → Prop
 | .pt b o, a => b < L.n ∧ ∃ B, L.m b = .pt B 0 ∧ a = .pt B o
 | .pg es b i o, a => b < L.n ∧ ∃ B, (L.m b).bk = some B ∧ a = .pt B (i * es + o)
 | .gr b, a => b < L.n ∧ a = L.m b ∧ a.cl = some [a]
 | .gp es b lo n, a => b < L.n ∧ gpR L.F H es (L.m b) lo n a
 | .fn f p c, a => ∃ p' c', a = .fn f p' c' ∧ RpL L H p p' ∧ RpL L H c c'
 | .fc t v, a => ∃ v', a = .fc t v' ∧ Rp L H v v'
 | .ag l, a => ∃ l', a = .ag l' ∧ RpL L H l l'
 | .tu l, a => ∃ l', a = .tu l' ∧ RpL L H l l'
 | .bo x, a => a = .bo x
 | .it k n, a => a = .it k n
 | .st x, a => a = .st x
 | .np, a => a = .np
 | .nf, a => a = .nf
 | .ni, a => a = .ni
 | .sn, a => a = .sn
 | .dd, _ => True
 | .vs w es l, a => Rc L.F H (.vs w es l) a
 | .pe l o, a => Rc L.F H (.pe l o) a
def RpL (L : Lk) (H : AH) : List PV → List AV → Prop
 | [], l => l = []
 | v :: r, l => ∃ a l', l = a :: l' ∧ Rp L H v a ∧ RpL L H r l'
end
theorem Sl.keep {H H' : AH} {es n : Nat} {v : AV} {l : List AV} (h : Sl H es v n l) (hn : H.nx ≤ H'.nx) (hg : ∀ b, v.bk = some b → H'.g b = H.g b) : Sl H' es v n l := by
 cases h with
 | sn => exact .sn
 | sl h1 h2 h3 h4 h5 => have e := hg _ rfl; exact .sl (Nat.lt_of_lt_of_le h1 hn) (by rw [e]; exact h2) (by rw [e]; exact h3) h4 h5
 | sg h1 h2 h3 h4 h5 h6 => have e := hg _ rfl; exact .sg (Nat.lt_of_lt_of_le h1 hn) (by rw [e]; exact h2) (by rw [e]; exact h3) (by rw [e]; exact h4) h5 h6
structure Stay (F : Nat → Prop) (H : AH) (F' : Nat → Prop) (H' : AH) : Prop where
 nx : H.nx ≤ H'.nx
 sF : ∀ b, F b → F' b
 g : ∀ b, F b → H'.g b = H.g b
theorem Stay.refl {F : Nat → Prop} {H : AH} : Stay F H F H := ⟨Nat.le_refl _, fun _ h => h, fun _ _ => rfl⟩
theorem Stay.trans {F F1 F2 : Nat → Prop} {H H1 H2 : AH} (a : Stay F H F1 H1) (b : Stay F1 H1 F2 H2) : Stay F H F2 H2 :=
 ⟨Nat.le_trans a.nx b.nx, fun x h => b.sF x (a.sF x h), fun x h => (b.g x (a.sF x h)).trans (a.g x h)⟩
mutual
theorem Rc.mono {F F' : Nat → Prop} {H H' : AH} (s : Stay F H F' H') : ∀ (v : PV) {a : AV}, Rc F H v a → Rc F' H' v a
 | .bo _, _, h | .it _ _, _, h | .st _, _, h | .np, _, h | .nf, _, h | .ni, _, h | .sn, _, h => h
 | .dd, _, _ => trivial
 | .vs w es l, _, ⟨⟨cs, h1, h2, h3⟩, h4⟩ => ⟨⟨cs, h1.keep s.nx fun b hb => s.g b (h2 b hb), fun b hb => s.sF b (h2 b hb), RcE.mono s es l h3⟩, h4⟩
 | .pe l o, _, ⟨B, q, cs, h1, h2, h3, h4⟩ => ⟨B, q, cs, h1, s.sF B h2, by unfold Rd; rw [s.g B h2]; exact h3, RcL.mono s l h4⟩
 | .fn f p c, _, ⟨p', c', h1, h2, h3⟩ => ⟨p', c', h1, RcL.mono s p h2, RcL.mono s c h3⟩
 | .fc t v, _, ⟨v', h1, h2⟩ => ⟨v', h1, Rc.mono s v h2⟩
 | .ag l, _, ⟨l', h1, h2⟩ => ⟨l', h1, RcL.mono s l h2⟩
 | .tu l, _, ⟨l', h1, h2⟩ => ⟨l', h1, RcL.mono s l h2⟩
 | .pt _ _, _, h | .pg _ _ _ _, _, h | .gr _, _, h | .gp _ _ _ _, _, h => h.elim
theorem RcL.mono {F F' : Nat → Prop} {H H' : AH} (s : Stay F H F' H') : ∀ (l : List PV) {as : List AV}, RcL F H l as → RcL F' H' l as
 | [], _, h => h
 | v :: r, _, ⟨a, l', h1, h2, h3⟩ => ⟨a, l', h1, Rc.mono s v h2, RcL.mono s r h3⟩
theorem RcE.mono {F F' : Nat → Prop} {H H' : AH} (s : Stay F H F' H') (es : Nat) : ∀ (l : List PV) {as : List AV}, RcE F H es l as → RcE F' H' es l as
 | [], _, h => h
 | v :: r, _, ⟨a, c, cs', h1, h2, h3, h4, h5⟩ => ⟨a, c, cs', Rc.mono s v h1, h2, h3, h4, RcE.mono s es r h5⟩
end
structure Keep (L : Lk) (H : AH) (L' : Lk) (H' : AH) : Prop where
 st : Stay L.F H L'.F H'
 n : L.n ≤ L'.n
 m : ∀ b, b < L.n → L'.m b = L.m b
theorem Keep.refl {L : Lk} {H : AH} : Keep L H L H := ⟨.refl, Nat.le_refl _, fun _ _ => rfl⟩
mutual
theorem Rp.mono {L L' : Lk} {H H' : AH} (s : Keep L H L' H') : ∀ (v : PV) {a : AV}, Rp L H v a → Rp L' H' v a
 | .bo _, _, h | .it _ _, _, h | .st _, _, h | .np, _, h | .nf, _, h | .ni, _, h | .sn, _, h => h
 | .dd, _, _ => trivial
 | .vs w es l, _, h => Rc.mono s.st (.vs w es l) h
 | .pe l o, _, h => Rc.mono s.st (.pe l o) h
 | .fn f p c, _, ⟨p', c', h1, h2, h3⟩ => ⟨p', c', h1, RpL.mono s p h2, RpL.mono s c h3⟩
 | .fc t v, _, ⟨v', h1, h2⟩ => ⟨v', h1, Rp.mono s v h2⟩
 | .ag l, _, ⟨l', h1, h2⟩ => ⟨l', h1, RpL.mono s l h2⟩
 | .tu l, _, ⟨l', h1, h2⟩ => ⟨l', h1, RpL.mono s l h2⟩
 | .pt b o, _, ⟨h0, h⟩ => ⟨Nat.lt_of_lt_of_le h0 s.n, by rw [s.m b h0]; exact h⟩
 | .pg es b i o, _, ⟨h0, h⟩ => ⟨Nat.lt_of_lt_of_le h0 s.n, by rw [s.m b h0]; exact h⟩
 | .gr b, _, ⟨h0, h⟩ => ⟨Nat.lt_of_lt_of_le h0 s.n, by rw [s.m b h0]; exact h⟩
 | .gp es b lo n, _, ⟨h0, h⟩ => ⟨Nat.lt_of_lt_of_le h0 s.n, by rw [s.m b h0]; exact h.imp (fun h => ⟨h.1, Rc.mono s.st _ h.2⟩) id⟩
theorem RpL.mono {L L' : Lk} {H H' : AH} (s : Keep L H L' H') : ∀ (l : List PV) {as : List AV}, RpL L H l as → RpL L' H' l as
 | [], _, h => h
 | v :: r, _, ⟨a, l', h1, h2, h3⟩ => ⟨a, l', h1, Rp.mono s v h2, RpL.mono s r h3⟩
end
mutual
theorem Rc.p {L : Lk} {H : AH} : ∀ (v : PV) {a : AV}, Rc L.F H v a → Rp L H v a
 | .bo _, _, h | .it _ _, _, h | .st _, _, h | .np, _, h | .nf, _, h | .ni, _, h | .sn, _, h => h
 | .dd, _, _ => trivial
 | .vs _ _ _, _, h | .pe _ _, _, h => h
 | .fn f p c, _, ⟨p', c', h1, h2, h3⟩ => ⟨p', c', h1, RcL.p p h2, RcL.p c h3⟩
 | .fc t v, _, ⟨v', h1, h2⟩ => ⟨v', h1, Rc.p v h2⟩
 | .ag l, _, ⟨l', h1, h2⟩ => ⟨l', h1, RcL.p l h2⟩
 | .tu l, _, ⟨l', h1, h2⟩ => ⟨l', h1, RcL.p l h2⟩
 | .pt _ _, _, h | .pg _ _ _ _, _, h | .gr _, _, h | .gp _ _ _ _, _, h => h.elim
theorem RcL.p {L : Lk} {H : AH} : ∀ (l : List PV) {as : List AV}, RcL L.F H l as → RpL L H l as
 | [], _, h => h
 | v :: r, _, ⟨a, l', h1, h2, h3⟩ => ⟨a, l', h1, Rc.p v h2, RcL.p r h3⟩
end
def PV.lit : PV → Bool
 | .bo _ | .it _ _ | .st _ | .np | .nf | .ni | .sn | .vs _ _ _ | .pe _ _ | .dd => true
 | _ => false
mutual
def PV.cld : PV → Bool
 | .bo _ | .it _ _ | .st _ | .np | .nf | .ni | .sn | .vs _ _ _ | .pe _ _ | .dd => true
 | .pt _ _ | .pg _ _ _ _ | .gr _ | .gp _ _ _ _ => false
 | .fn _ p c => PV.cldL p && PV.cldL c
 | .fc _ v => v.cld
 | .ag l => PV.cldL l
 | .tu l => PV.cldL l
def PV.cldL : List PV → Bool
 | [] => true
 | v :: r => v.cld && PV.cldL r
end
mutual
theorem Rp.c {L : Lk} {H : AH} : ∀ (v : PV) {a : AV}, v.cld = true → Rp L H v a → Rc L.F H v a
 | .bo _, _, _, h | .it _ _, _, _, h | .st _, _, _, h | .np, _, _, h | .nf, _, _, h | .ni, _, _, h | .sn, _, _, h => h
 | .dd, _, _, _ => trivial
 | .vs _ _ _, _, _, h | .pe _ _, _, _, h => h
 | .fn f p c, _, hc, ⟨p', c', h1, h2, h3⟩ => by
  simp only [PV.cld, Bool.and_eq_true] at hc
  exact ⟨p', c', h1, RpL.c p hc.1 h2, RpL.c c hc.2 h3⟩
 | .fc t v, _, hc, ⟨v', h1, h2⟩ => by
  simp only [PV.cld] at hc
  exact ⟨v', h1, Rp.c v hc h2⟩
 | .ag l, _, hc, ⟨l', h1, h2⟩ => by
  simp only [PV.cld] at hc
  exact ⟨l', h1, RpL.c l hc h2⟩
 | .tu l, _, hc, ⟨l', h1, h2⟩ => by
  simp only [PV.cld] at hc
  exact ⟨l', h1, RpL.c l hc h2⟩
 | .pt _ _, _, hc, _ | .pg _ _ _ _, _, hc, _ | .gr _, _, hc, _ | .gp _ _ _ _, _, hc, _ => by simp [PV.cld] at hc
theorem RpL.c {L : Lk} {H : AH} : ∀ (l : List PV) {as : List AV}, PV.cldL l = true → RpL L H l as → RcL L.F H l as
 | [], _, _, h => h
 | v :: r, _, hc, ⟨a, l', h1, h2, h3⟩ => by
  simp only [PV.cldL, Bool.and_eq_true] at hc
  exact ⟨a, l', h1, Rp.c v hc.1 h2, RpL.c r hc.2 h3⟩
end
theorem RpL.len {L : Lk} {H : AH} : ∀ {l : List PV} {as : List AV}, RpL L H l as → as.length = l.length
 | [], _, h => by simp only [RpL] at h; subst h; rfl
 | v :: r, _, ⟨a, l', h1, h2, h3⟩ => by subst h1; simp [RpL.len h3]
theorem RpL.get {L : Lk} {H : AH} : ∀ {l : List PV} {as : List AV} {i : Nat} {v : PV}, RpL L H l as → l[i]? = some v → ∃ a, as[i]? = some a ∧ Rp L H v a
 | [], _, _, _, _, h => by simp at h
 | x :: r, _, 0, v, ⟨a, l', h1, h2, h3⟩, h => by
  simp only [List.getElem?_cons_zero, Option.some.injEq] at h
  subst h; subst h1
  exact ⟨a, rfl, h2⟩
 | x :: r, _, i + 1, v, ⟨a, l', h1, h2, h3⟩, h => by
  simp only [List.getElem?_cons_succ] at h
  subst h1
  obtain ⟨a', h4, h5⟩ := h3.get h
  exact ⟨a', by simpa using h4, h5⟩
theorem RpL.app {L : Lk} {H : AH} : ∀ {l m : List PV} {as bs : List AV}, RpL L H l as → RpL L H m bs → RpL L H (l ++ m) (as ++ bs)
 | [], _, _, _, h, h' => by simp only [RpL] at h; subst h; exact h'
 | v :: r, _, _, _, ⟨a, l', h1, h2, h3⟩, h' => by subst h1; exact ⟨a, _, rfl, h2, h3.app h'⟩
theorem RpL.take {L : Lk} {H : AH} : ∀ {l : List PV} {as : List AV} (n : Nat), RpL L H l as → RpL L H (l.take n) (as.take n)
 | [], _, n, h => by simp only [RpL] at h; subst h; simp [RpL]
 | v :: r, _, 0, ⟨a, l', h1, h2, h3⟩ => by simp [RpL]
 | v :: r, _, n + 1, ⟨a, l', h1, h2, h3⟩ => by subst h1; exact ⟨a, _, rfl, h2, h3.take n⟩
theorem RpL.drop {L : Lk} {H : AH} : ∀ {l : List PV} {as : List AV} (n : Nat), RpL L H l as → RpL L H (l.drop n) (as.drop n)
 | [], _, n, h => by simp only [RpL] at h; subst h; simp [RpL]
 | v :: r, _, 0, h => h
 | v :: r, _, n + 1, ⟨a, l', h1, h2, h3⟩ => by subst h1; exact h3.drop n
theorem RcL.len {F : Nat → Prop} {H : AH} : ∀ {l : List PV} {as : List AV}, RcL F H l as → as.length = l.length
 | [], _, h => by simp only [RcL] at h; subst h; rfl
 | v :: r, _, ⟨a, l', h1, h2, h3⟩ => by subst h1; simp [RcL.len h3]
theorem RcL.app {F : Nat → Prop} {H : AH} : ∀ {l m : List PV} {as bs : List AV}, RcL F H l as → RcL F H m bs → RcL F H (l ++ m) (as ++ bs)
 | [], _, _, _, h, h' => by simp only [RcL] at h; subst h; exact h'
 | v :: r, _, _, _, ⟨a, l', h1, h2, h3⟩, h' => by subst h1; exact ⟨a, _, rfl, h2, h3.app h'⟩
theorem RcL.take {F : Nat → Prop} {H : AH} : ∀ {l : List PV} {as : List AV} (n : Nat), RcL F H l as → RcL F H (l.take n) (as.take n)
 | [], _, n, h => by simp only [RcL] at h; subst h; simp [RcL]
 | v :: r, _, 0, ⟨a, l', h1, h2, h3⟩ => by simp [RcL]
 | v :: r, _, n + 1, ⟨a, l', h1, h2, h3⟩ => by subst h1; exact ⟨a, _, rfl, h2, h3.take n⟩
theorem RcL.drop {F : Nat → Prop} {H : AH} : ∀ {l : List PV} {as : List AV} (n : Nat), RcL F H l as → RcL F H (l.drop n) (as.drop n)
 | [], _, n, h => by simp only [RcL] at h; subst h; simp [RcL]
 | v :: r, _, 0, h => h
 | v :: r, _, n + 1, ⟨a, l', h1, h2, h3⟩ => by subst h1; exact h3.drop n
def PV.cl : PV → Option (List PV)
 | .ag l => some l
 | .tu _ => none
 | .dd => none
 | v => some [v]
theorem Rp.cl {L : Lk} {H : AH} {v : PV} {a : AV} {l : List PV} (h : Rp L H v a) (hl : v.cl = some l) : ∃ c, a.cl = some c ∧ RpL L H l c := by
 cases v <;> simp only [PV.cl, Option.some.injEq, reduceCtorEq] at hl <;> subst hl
 case ag l => obtain ⟨l', rfl, h2⟩ := h; exact ⟨l', rfl, h2⟩
 all_goals refine ⟨[a], ?_, ⟨a, [], rfl, h, rfl⟩⟩
 case vs => obtain ⟨⟨cs, h1, _⟩, _⟩ := h; exact h1.cl
 case pe => obtain ⟨_, _, _, rfl, _⟩ := h; rfl
 case fn => obtain ⟨_, _, rfl, _⟩ := h; rfl
 case fc => obtain ⟨_, rfl, _⟩ := h; rfl
 case pt => obtain ⟨_, _, _, rfl⟩ := h; rfl
 case pg => obtain ⟨_, _, _, rfl⟩ := h; rfl
 all_goals first
  | (simp only [Rp] at h; subst h; rfl)
  | skip
 case gp =>
  obtain ⟨_, ⟨_, ⟨_, h, _⟩, _⟩ | ⟨_, _, ⟨_, _, h, _⟩ | ⟨_, _, _, h, _⟩⟩⟩ := h
  ·exact h.cl
  ·rw [h]; rfl
  ·rw [h]; rfl
 case gr => exact h.2.2
end Go.AX
end
section
namespace Go.AX
open Go
inductive PB where
 | no
 | va (l : List PV)                              -- variables, one's own
 | fv (l : List PV)                              -- variables that stay
 | gs (w : Bool) (es : Nat) (l : List PV)        -- a slice, one's own (w: it may be written)
 | fz (es : Nat) (l : List PV)                   -- a slice that stays
 | mi (es : List (AV × AV))                      -- a map, one's own
 deriving Inhabited
def PB.own : PB → Bool
 | .va _ => true
 | .gs _ _ _ => true
 | .mi _ => true
 | _ => false
def GsX (F : Nat → Prop) (H : AH) (es : Nat) (l : List PV) (a : AV) (B : Nat) : Prop :=
 ∃ cs sp, B < H.nx ∧ H.g B = .rw (cs ++ sp) ∧ RcE F H es l cs ∧ ((a = .sg B 0 0 l.length es ∧ 0 < es) ∨ ∃ c, l.length ≤ c ∧ a = .sl B 0 l.length c ∧ sp.length = (c - l.length) * es)
def GsR (L : Lk) (H : AH) (w : Bool) (es : Nat) (l : List PV) (a : AV) : Prop :=
 (Rc L.F H (.vs 2 es l) a ∧ (w = true → l = [])) ∨ ∃ B, ¬ L.F B ∧ GsX L.F H es l a B
def BkR (L : Lk) (H : AH) : PB → AV → Prop
 | .no, _ => True
 | .va l, a => ∃ B cs, a = .pt B 0 ∧ B < H.nx ∧ ¬ L.F B ∧ H.g B = .rw cs ∧ RpL L H l cs
 | .fv l, a => Rc L.F H (.pe l 0) a ∧ ∃ B, a = .pt B 0
 | .gs w es l, a => GsR L H w es l a ∧ a.cl = some [a]
 | .fz es l, a => ((Rc L.F H (.vs 2 es l) a ∧ l = []) ∨ ∃ B, L.F B ∧ GsX L.F H es l a B) ∧ a.cl = some [a]
 | .mi es, a => ∃ X, a = .mp X ∧ X < H.nx ∧ ¬ L.F X ∧ H.g X = .mp es
structure HR (L : Lk) (H : AH) (B : List PB) : Prop where
 n : L.n = B.length
 fl : ∀ X, L.F X → X < H.nx
 wf : ∀ X, H.nx ≤ X → H.g X = .no
 bk : ∀ b p, B[b]? = some p → BkR L H p (L.m b)
 dj : ∀ b b' p p' X, B[b]? = some p → B[b']? = some p' → p.own = true → p'.own = true → (L.m b).bk = some X → (L.m b').bk = some X → ¬ L.F X → b = b'
def ER (L : Lk) (H : AH) (E : Nat → PV) (Ea : Env) : Prop := ∀ t, Rp L H (E t) (Ea t)
def Ow (L : Lk) (B : List PB) (X : Nat) : Prop := ∃ b p, B[b]? = some p ∧ p.own = true ∧ (L.m b).bk = some X ∧ ¬ L.F X
structure Ev (L : Lk) (H : AH) (B : List PB) (L' : Lk) (H' : AH) (B' : List PB) : Prop where
 k : Keep L H L' H'
 fr : ∀ X, X < H.nx → ¬ L.F X → ¬ Ow L B X → H'.g X = H.g X
 fF : ∀ X, L'.F X → L.F X ∨ Ow L B X ∨ H.nx ≤ X
 fO : ∀ X, Ow L' B' X → Ow L B X ∨ H.nx ≤ X
theorem Ev.refl {L : Lk} {H : AH} {B : List PB} : Ev L H B L H B := ⟨.refl, fun _ _ _ _ => rfl, fun _ h => .inl h, fun _ h => .inl h⟩
mutual
def ofAV : AV → PV
 | .bo x => .bo x
 | .it k n => .it k n
 | .st x => .st x
 | .np => .np
 | .nf => .nf
 | .ni => .ni
 | .sn => .sn
 | .ag l => .ag (ofAVL l)
 | .tu l => .tu (ofAVL l)
 | _ => .dd
def ofAVL : List AV → List PV
 | [] => []
 | v :: r => ofAV v :: ofAVL r
end
mutual
theorem Rc_of {F : Nat → Prop} {H : AH} : ∀ (a : AV), Rc F H (ofAV a) a
 | .bo _ | .it _ _ | .st _ | .np | .nf | .ni | .sn => by simp only [ofAV, Rc]
 | .ag l => ⟨l, rfl, RcL_of l⟩
 | .tu l => ⟨l, rfl, RcL_of l⟩
 | .fl _ _ | .pt _ _ | .sl _ _ _ _ | .sg _ _ _ _ _ | .fn _ _ _ | .fc _ _ | .mn | .mp _ => by simp only [ofAV, Rc]
theorem RcL_of {F : Nat → Prop} {H : AH} : ∀ (l : List AV), RcL F H (ofAVL l) l
 | [] => by simp only [ofAVL, RcL]
 | v :: r => ⟨v, r, rfl, Rc_of v, RcL_of r⟩
end
theorem ofAVL_map : ∀ (l : List AV), ofAVL l = l.map ofAV
 | [] => rfl
 | v :: r => by simp only [ofAVL, List.map_cons, ofAVL_map r]
def pev (E : Nat → PV) : Opd → PV
 | .t n => E n
 | .k v => ofAV v
 | .f n => .fn (.func n) [] []
theorem Rp_ev {L : Lk} {H : AH} {E : Nat → PV} {Ea : Env} (h : ER L H E Ea) (x : Opd) : Rp L H (pev E x) (ev Ea x) := by
 cases x with
 | t n => exact h n
 | k v => exact Rc.p _ (Rc_of v)
 | f n => exact ⟨[], [], rfl, rfl, rfl⟩
mutual
def tv : PV → Option AV
 | .bo x => some (.bo x)
 | .it k n => some (.it k n)
 | .st x => some (.st x)
 | .np => some .np
 | .nf => some .nf
 | .ni => some .ni
 | .ag l => (tvL l).map .ag
 | _ => none
def tvL : List PV → Option (List AV)
 | [] => some []
 | v :: r => (tv v).bind fun a => (tvL r).map (a :: ·)
end
mutual
theorem tv_eq {L : Lk} {H : AH} : ∀ (v : PV) {a a' : AV}, Rp L H v a → tv v = some a' → a = a'
 | .bo _, _, _, h, h' | .it _ _, _, _, h, h' | .st _, _, _, h, h' | .np, _, _, h, h' | .nf, _, _, h, h' | .ni, _, _, h, h' => by
  simp only [Rp] at h; simp only [tv, Option.some.injEq] at h'; rw [h, h']
 | .ag l, _, _, ⟨l', h1, h2⟩, h' => by
  simp only [tv, Option.map_eq_some_iff] at h'
  obtain ⟨m, hm, rfl⟩ := h'
  rw [h1, tvL_eq l h2 hm]
 | .sn, _, _, _, h' | .dd, _, _, _, h' | .vs _ _ _, _, _, _, h' | .pe _ _, _, _, _, h' | .pt _ _, _, _, _, h' | .pg _ _ _ _, _, _, _, h' | .gr _, _, _, _, h' | .gp _ _ _ _, _, _, _, h'
 | .fn _ _ _, _, _, _, h' | .fc _ _, _, _, _, h' | .tu _, _, _, _, h' => by simp [tv] at h'
theorem tvL_eq {L : Lk} {H : AH} : ∀ (l : List PV) {as m : List AV}, RpL L H l as → tvL l = some m → as = m
 | [], _, _, h, h' => by
  simp only [RpL] at h; simp only [tvL, Option.some.injEq] at h'; rw [h, h']
 | v :: r, _, _, ⟨a, l', h1, h2, h3⟩, h' => by
  simp only [tvL, Option.bind_eq_some_iff, Option.map_eq_some_iff] at h'
  obtain ⟨b, hb, m', hm, rfl⟩ := h'
  rw [h1, tv_eq v h2 hb, tvL_eq r h3 hm]
end
def nilw : EqT → PV → Option Bool
 | .pt, .np => some true
 | .pt, .pt _ _ => some false
 | .pt, .pe _ _ => some false
 | .pt, .pg _ _ _ _ => some false
 | .sl, .sn => some true
 | .sl, .vs _ _ (_ :: _) => some false
 | .fn, .nf => some true
 | .fn, .fn _ _ _ => some false
 | .ic, .fc _ _ => some false
 | _, _ => none
def nilc : EqT → PV → Bool
 | .pt, .np => true
 | .sl, .sn => true
 | .fn, .nf => true
 | .ic, .ni => true
 | _, _ => false
def pnil (te : EqT) (cn : Bool) (x y : PV) : Option Bool := match nilc te y with | true => (match te, cn, x with | .ic, true, .ni => some true | _, _, _ => nilw te x) | false => none
theorem pnil_veq {L : Lk} {H : AH} {te : EqT} {cn : Bool} {x y : PV} {a b : AV} {e : Bool} (hx : Rp L H x a) (hy : Rp L H y b) (h : pnil te cn x y = some e) : veq te cn a b = some e ∧ twoOf a b = false := by
 unfold pnil at h
 split at h
 · rename_i hn
   unfold nilc at hn
   split at hn <;> simp only [Bool.false_eq_true] at hn
   all_goals
     simp only [Rp] at hy
     subst hy
     split at h
     · first
         | contradiction
         | (simp only [Option.some.injEq] at h; subst h; simp only [Rp] at hx; subst hx; exact ⟨rfl, rfl⟩)
     unfold nilw at h
     split at h <;> simp only [Option.some.injEq, reduceCtorEq] at h <;> (try contradiction) <;> subst h
   all_goals first
     | (simp only [Rp] at hx; subst hx; exact ⟨rfl, rfl⟩)
     | (obtain ⟨_, _, _, rfl⟩ := hx; exact ⟨rfl, rfl⟩)
     | (obtain ⟨_, _, _, rfl, _⟩ := hx; exact ⟨rfl, rfl⟩)
     | (obtain ⟨_, _, rfl, _⟩ := hx; exact ⟨rfl, rfl⟩)
     | (obtain ⟨_, rfl, _⟩ := hx; exact ⟨rfl, rfl⟩)
     | (obtain ⟨⟨_, h1, _⟩, _⟩ := hx
        cases h1 <;> exact ⟨rfl, rfl⟩)
     | skip
 · cases h
def pbin (op : BinOp) (te : EqT) (cn : Bool) : PV → PV → Option PV
 | .it k a, .it k' b => (vbin op te cn (.it k a) (.it k' b)).map ofAV
 | .bo a, .bo b => (vbin op te cn (.bo a) (.bo b)).map ofAV
 | .st a, .st b => (vbin op te cn (.st a) (.st b)).map ofAV
 | .ag l, .ag m => (tvL l).bind fun l => (tvL m).bind fun m => (vbin op te cn (.ag l) (.ag m)).map ofAV
 | x, y =>
  match op with
  | .eql => (pnil te cn x y).map .bo
  | .neq => (pnil te cn x y).map fun e => .bo (!e)
  | _ => none
theorem vbin_nil {op : BinOp} {te : EqT} {cn : Bool} {a b : AV} (ht : twoOf a b = false) : vbin op te cn a b = match op with | .eql => (veq te cn a b).map .bo | .neq => (veq te cn a b).map fun e => .bo (!e) | _ => none := by
 cases a <;> cases b <;> simp only [twoOf, Bool.true_eq_false] at ht <;> rfl
theorem pbin_ok {L : Lk} {H : AH} {op : BinOp} {te : EqT} {cn : Bool} {x y v : PV} {a b : AV} (hx : Rp L H x a) (hy : Rp L H y b) (h : pbin op te cn x y = some v) : ∃ c, vbin op te cn a b = some c ∧ Rp L H v c := by
 have fin : ∀ {a' b' : AV}, tv x = some a' → tv y = some b' → (vbin op te cn a' b').map ofAV = some v → ∃ c, vbin op te cn a b = some c ∧ Rp L H v c := by
  intro a' b' h1 h2 h3
  rw [tv_eq x hx h1, tv_eq y hy h2]
  obtain ⟨c, hc, rfl⟩ := Option.map_eq_some_iff.1 h3
  exact ⟨c, hc, Rc.p _ (Rc_of c)⟩
 unfold pbin at h
 split at h
 ·exact fin rfl rfl h
 ·exact fin rfl rfl h
 ·exact fin rfl rfl h
 ·simp only [Option.bind_eq_some_iff] at h
  obtain ⟨l, hl, m, hm, h⟩ := h
  exact fin (by simp only [tv, hl, Option.map_some]) (by simp only [tv, hm, Option.map_some]) h
 ·split at h
  ·obtain ⟨e, he, rfl⟩ := Option.map_eq_some_iff.1 h
   obtain ⟨h1, h2⟩ := pnil_veq (cn := cn) hx hy he
   exact ⟨.bo e, by rw [vbin_nil h2]; simp only [h1, Option.map_some], rfl⟩
  ·obtain ⟨e, he, rfl⟩ := Option.map_eq_some_iff.1 h
   obtain ⟨h1, h2⟩ := pnil_veq (cn := cn) hx hy he
   exact ⟨.bo (!e), by rw [vbin_nil h2]; simp only [h1, Option.map_some], rfl⟩
  ·cases h
def pun (op : UnOp) : PV → Option PV
 | .bo a => (vun op (.bo a)).map ofAV
 | .it k a => (vun op (.it k a)).map ofAV
 | _ => none
def pcvi (k : IntKind) : PV → Option PV
 | .it _ n => some (.it k (k.wrap n))
 | _ => none
def psub (l : List PV) (o n : Nat) : Option PV := if o + n ≤ l.length then some (.ag ((l.drop o).take n)) else none
def papart (l : List PV) (o n : Nat) (ag : Bool) : Option PV :=
 match ag with
 | true => psub l o n
 | false => l[o]?
theorem papart_ok {L : Lk} {H : AH} {l : List PV} {as : List AV} {o n : Nat} {ag : Bool} {v : PV} (h : RpL L H l as) (hv : papart l o n ag = some v) : ∃ c, apart as o n ag = some c ∧ Rp L H v c := by
 cases ag with
 | true =>
  simp only [papart, psub] at hv
  split at hv
  ·rename_i hle
   simp only [Option.some.injEq] at hv; subst hv
   exact ⟨_, by simp only [apart]; rw [if_pos (by rw [h.len]; exact hle)], ⟨_, rfl, (h.drop o).take n⟩⟩
  ·cases hv
 | false =>
  obtain ⟨a, h1, h2⟩ := h.get hv
  exact ⟨a, h1, h2⟩
def pfld (o n : Nat) (ag : Bool) : PV → Option PV
 | .ag l => papart l o n ag
 | _ => none
def pix (n es : Nat) (ag : Bool) : PV → PV → Option PV
 | .ag l, .it _ i => if 0 ≤ i ∧ i < n then papart l (i.toNat * es) es ag else none
 | _, _ => none
def pext (i : Nat) : PV → Option PV
 | .tu l => l[i]?
 | _ => none
def pfa (o : Nat) : PV → Option PV
 | .pt b p => some (.pt b (p + o))
 | .pe l p => some (.pe l (p + o))
 | .pg es b i p => some (.pg es b i (p + o))
 | _ => none
def piaa (n es : Nat) : PV → PV → Option PV
 | x, .it _ i => if 0 ≤ i ∧ i < n then pfa (i.toNat * es) x else none
 | _, _ => none
def pnilc : PV → Option PV
 | .pt b o => some (.pt b o)
 | .pe l o => some (.pe l o)
 | .pg es b i o => some (.pg es b i o)
 | .fn (.func f) a c => some (.fn (.func f) a c)
 | _ => none
def pmm2 (mx : Bool) : PV → PV → Option PV
 | .it k x, .it _ y => some (.it k (match mx with | true => if y > x then y else x | false => if y < x then y else x))
 | _, _ => none
def pmmL (mx : Bool) : PV → List PV → Option PV
 | a, [] => some a
 | a, b :: r => (pmm2 mx a b).bind fun c => pmmL mx c r
def ppick : PV → PV → PV → Option PV
 | .bo c, a, b => some (bif c then a else b)
 | _, _, _ => none
def pfill (E : Nat → PV) : List PV → List Part → Option (List PV)
 | cs, [] => some cs
 | cs, p :: r => (pev E p.x).cl.bind fun m => if m.length = p.n ∧ p.o + p.n ≤ cs.length then pfill E (cs.take p.o ++ (m ++ cs.drop (p.o + p.n))) r else none
def pbnd (E : Nat → PV) (d : Nat) (top : Nat) : Option Opd → Option Nat
 | none => some d
 | some x => match pev E x with | .it _ i => if 0 ≤ i ∧ i ≤ top then some i.toNat else none | _ => none
section
variable {L : Lk} {H : AH} {E : Nat → PV} {Ea : Env}
theorem pun_ok {op : UnOp} {x v : PV} {a : AV} (hx : Rp L H x a) (h : pun op x = some v) : ∃ c, vun op a = some c ∧ Rp L H v c := by
 cases x <;> simp only [pun, reduceCtorEq, Option.map_eq_some_iff] at h <;> (simp only [Rp] at hx; subst hx; obtain ⟨c, hc, rfl⟩ := h; exact ⟨c, hc, Rc.p _ (Rc_of c)⟩)
theorem pcvi_ok {k : IntKind} {x v : PV} {a : AV} (hx : Rp L H x a) (h : pcvi k x = some v) : ∃ c, vcvi k a = some c ∧ Rp L H v c := by
 cases x <;> simp only [pcvi, reduceCtorEq, Option.some.injEq] at h
 simp only [Rp] at hx; subst hx; subst h
 exact ⟨_, rfl, rfl⟩
theorem pfld_ok {o n : Nat} {ag : Bool} {x v : PV} {a : AV} (hx : Rp L H x a) (h : pfld o n ag x = some v) : ∃ c, vfld o n ag a = some c ∧ Rp L H v c := by
 cases x <;> simp only [pfld, reduceCtorEq] at h
 obtain ⟨l', rfl, h2⟩ := hx
 exact papart_ok h2 h
theorem pix_ok {n es : Nat} {ag : Bool} {x y v : PV} {a b : AV} (hx : Rp L H x a) (hy : Rp L H y b) (h : pix n es ag x y = some v) : ∃ c, vix n es ag a b = some c ∧ Rp L H v c := by
 cases x <;> cases y <;> simp only [pix, reduceCtorEq] at h
 obtain ⟨l', rfl, h2⟩ := hx
 simp only [Rp] at hy; subst hy
 split at h
 ·rename_i hi
  simp only [vix]
  rw [if_pos hi]
  exact papart_ok h2 h
 ·cases h
theorem pext_ok {i : Nat} {x v : PV} {a : AV} (hx : Rp L H x a) (h : pext i x = some v) : ∃ c, vext i a = some c ∧ Rp L H v c := by
 cases x <;> simp only [pext, reduceCtorEq] at h
 obtain ⟨l', rfl, h2⟩ := hx
 exact h2.get h
theorem pfa_ok {o : Nat} {x v : PV} {a : AV} (hx : Rp L H x a) (h : pfa o x = some v) : ∃ b p, a = .pt b p ∧ Rp L H v (.pt b (p + o)) := by
 cases x <;> simp only [pfa, reduceCtorEq, Option.some.injEq] at h <;> subst h
 ·obtain ⟨B, q, cs, rfl, h2, h3⟩ := hx
  exact ⟨_, _, rfl, B, q, cs, by rw [Nat.add_assoc], h2, h3⟩
 ·obtain ⟨h0, B, h1, rfl⟩ := hx
  exact ⟨_, _, rfl, h0, B, h1, rfl⟩
 ·obtain ⟨h0, B, h1, rfl⟩ := hx
  exact ⟨_, _, rfl, h0, B, h1, by rw [Nat.add_assoc]⟩
theorem piaa_ok {n es : Nat} {x y v : PV} {a b : AV} (hx : Rp L H x a) (hy : Rp L H y b) (h : piaa n es x y = some v) : ∃ c, viaa n es a b = some c ∧ Rp L H v c := by
 cases y <;> simp only [piaa, reduceCtorEq] at h
 simp only [Rp] at hy; subst hy
 split at h
 ·rename_i hi
  obtain ⟨b, p, rfl, h2⟩ := pfa_ok hx h
  exact ⟨_, by simp only [viaa]; rw [if_pos hi], h2⟩
 ·cases h
theorem pnilc_ok {x v : PV} {a : AV} (hx : Rp L H x a) (h : pnilc x = some v) : ∃ c, vnilc a = some c ∧ Rp L H v c := by
 unfold pnilc at h
 split at h <;> simp only [Option.some.injEq, reduceCtorEq] at h <;> subst h
 ·have hx' := hx
  obtain ⟨h0, B, h1, rfl⟩ := hx
  exact ⟨_, rfl, hx'⟩
 ·have hx' := hx
  obtain ⟨B, q, cs, rfl, h2, h3⟩ := hx
  exact ⟨_, rfl, hx'⟩
 ·have hx' := hx
  obtain ⟨h0, B, h1, rfl⟩ := hx
  exact ⟨_, rfl, hx'⟩
 ·have hx' := hx
  obtain ⟨p', c', rfl, h2⟩ := hx
  exact ⟨_, rfl, hx'⟩
theorem pmm2_ok {mx : Bool} {x y v : PV} {a b : AV} (hx : Rp L H x a) (hy : Rp L H y b) (h : pmm2 mx x y = some v) : ∃ c, mm2 mx a b = some c ∧ Rp L H v c := by
 cases x <;> cases y <;> simp only [pmm2, reduceCtorEq, Option.some.injEq] at h
 simp only [Rp] at hx hy; subst hx; subst hy; subst h
 exact ⟨_, rfl, rfl⟩
theorem pmmL_ok {mx : Bool} : ∀ {ys : List PV} {bs : List AV} {x v : PV} {a : AV}, Rp L H x a → RpL L H ys bs → pmmL mx x ys = some v → ∃ c, mmL mx a bs = some c ∧ Rp L H v c
 | [], _, x, v, a, hx, hy, h => by
  simp only [RpL] at hy; subst hy
  simp only [pmmL, Option.some.injEq] at h; subst h
  exact ⟨a, rfl, hx⟩
 | y :: r, _, x, v, a, hx, ⟨b, bs, h1, h2, h3⟩, h => by
  subst h1
  simp only [pmmL, Option.bind_eq_some_iff] at h
  obtain ⟨u, hu, h⟩ := h
  obtain ⟨c, hc, hr⟩ := pmm2_ok hx h2 hu
  obtain ⟨d, hd, hr'⟩ := pmmL_ok hr h3 h
  exact ⟨d, by simp only [mmL, hc, Option.bind_some, hd], hr'⟩
theorem RpL_map (h : ER L H E Ea) : ∀ (xs : List Opd), RpL L H (xs.map (pev E)) (xs.map (ev Ea))
 | [] => by simp [RpL]
 | x :: r => ⟨_, _, rfl, Rp_ev h x, RpL_map h r⟩
theorem pfill_ok (h : ER L H E Ea) : ∀ (ps : List Part) {cs l : List PV} {as : List AV}, RpL L H cs as → pfill E cs ps = some l → ∃ l', vfill Ea as ps = some l' ∧ RpL L H l l'
 | [], cs, l, as, hc, hl => by
  simp only [pfill, Option.some.injEq] at hl; subst hl
  exact ⟨as, rfl, hc⟩
 | p :: r, cs, l, as, hc, hl => by
  simp only [pfill, Option.bind_eq_some_iff] at hl
  obtain ⟨m, hm, hl⟩ := hl
  obtain ⟨m', hm', hr⟩ := (Rp_ev h p.x).cl hm
  split at hl
  ·rename_i hcnd
   obtain ⟨l', h1, h2⟩ := pfill_ok h r ((hc.take p.o).app (hr.app (hc.drop (p.o + p.n)))) hl
   refine ⟨l', ?_, h2⟩
   simp only [vfill, hm', Option.bind_some]
   rw [if_pos (by rw [hr.len, hc.len]; exact hcnd)]
   unfold splice
   rw [hr.len, hcnd.1]
   exact h1
  ·cases hl
theorem pbnd_ok (h : ER L H E Ea) {d top k : Nat} {x : Option Opd} (hb : pbnd E d top x = some k) : bnd Ea d top x = some k := by
 cases x with
 | none => exact hb
 | some x =>
  have hr := Rp_ev h x
  simp only [pbnd] at hb
  simp only [bnd]
  split at hb
  ·rename_i k' i he
   rw [he] at hr
   simp only [Rp] at hr
   rw [hr]
   exact hb
  ·cases hb
end
end Go.AX
end
section
namespace Go.AX
open Go
section
variable {F : Nat → Prop} {H : AH} {es : Nat}
theorem Rc.cl {v : PV} {a : AV} {l : List PV} (h : Rc F H v a) (hl : v.cl = some l) : ∃ c, a.cl = some c ∧ RcL F H l c := by
 cases v <;> simp only [PV.cl, Option.some.injEq, reduceCtorEq] at hl <;> subst hl
 case ag l => obtain ⟨l', rfl, h2⟩ := h; exact ⟨l', rfl, h2⟩
 all_goals refine ⟨[a], ?_, ⟨a, [], rfl, h, rfl⟩⟩
 case vs => obtain ⟨⟨cs, h1, _⟩, _⟩ := h; exact h1.cl
 case pe => obtain ⟨_, _, _, rfl, _⟩ := h; rfl
 case fn => obtain ⟨_, _, rfl, _⟩ := h; rfl
 case fc => obtain ⟨_, rfl, _⟩ := h; rfl
 all_goals first
  | (simp only [Rc] at h; subst h; rfl)
  | (simp only [Rc] at h)
theorem RcE.len : ∀ {l : List PV} {cs : List AV}, RcE F H es l cs → cs.length = l.length * es
 | [], _, h => by simp only [RcE] at h; subst h; simp
 | v :: r, _, ⟨a, c, cs', h1, h2, h3, h4, h5⟩ => by subst h4; rw [List.length_append, h5.len, h3, List.length_cons, Nat.add_mul]; omega
theorem RcE.app : ∀ {l m : List PV} {cs ds : List AV}, RcE F H es l cs → RcE F H es m ds → RcE F H es (l ++ m) (cs ++ ds)
 | [], _, _, _, h, h' => by simp only [RcE] at h; subst h; exact h'
 | v :: r, _, _, _, ⟨a, c, cs', h1, h2, h3, h4, h5⟩, h' => by subst h4; exact ⟨a, c, _, h1, h2, h3, by rw [List.append_assoc], h5.app h'⟩
theorem RcE.drop : ∀ {l : List PV} {cs : List AV} (n : Nat), RcE F H es l cs → RcE F H es (l.drop n) (cs.drop (n * es))
 | [], _, n, h => by simp only [RcE] at h; subst h; simp [RcE]
 | v :: r, _, 0, h => by simpa using h
 | v :: r, _, n + 1, ⟨a, c, cs', h1, h2, h3, h4, h5⟩ => by
  subst h4
  show RcE F H es (r.drop n) _
  rw [Nat.add_mul, Nat.one_mul, Nat.add_comm (n * es) es, ← List.drop_drop, List.drop_left' h3]
  exact h5.drop n
theorem RcE.take : ∀ {l : List PV} {cs : List AV} (n : Nat), RcE F H es l cs → RcE F H es (l.take n) (cs.take (n * es))
 | [], _, n, h => by simp only [RcE] at h; subst h; simp [RcE]
 | v :: r, _, 0, h => by simp [RcE]
 | v :: r, _, n + 1, ⟨a, c, cs', h1, h2, h3, h4, h5⟩ => by
  subst h4
  refine ⟨a, c, cs'.take (n * es), h1, h2, h3, ?_, h5.take n⟩
  rw [Nat.add_mul, Nat.one_mul, Nat.add_comm, List.take_append, List.take_of_length_le (by omega), h3, Nat.add_sub_cancel_left]
theorem RcE.elt {l : List PV} {cs : List AV} {i : Nat} {e : PV} (h : RcE F H es l cs) (he : l[i]? = some e) : ∃ a, Rc F H e a ∧ a.cl = some ((cs.drop (i * es)).take es) ∧ ((cs.drop (i * es)).take es).length = es ∧ i * es + es ≤ cs.length := by
 have hi := (List.getElem?_eq_some_iff.1 he).1
 have h1 := h.drop i
 have hd : l.drop i = e :: l.drop (i + 1) := by
  rw [List.drop_eq_getElem_cons hi]
  rw [List.getElem?_eq_getElem hi] at he
  simp only [Option.some.injEq] at he
  rw [he]
 rw [hd] at h1
 obtain ⟨a, c, cs', h2, h3, h4, h5, h6⟩ := h1
 have hc : (cs.drop (i * es)).take es = c := by rw [h5, List.take_left' h4]
 refine ⟨a, h2, by rw [hc]; exact h3, by rw [hc]; exact h4, ?_⟩
 have hl := h.len
 have := Nat.mul_le_mul_right es (show i + 1 ≤ l.length by omega)
 rw [Nat.add_mul, Nat.one_mul] at this
 omega
end
section
variable {L : Lk} {H : AH} {B : List PB} {E : Nat → PV} {Ea : Env}
theorem Rd.sub {X q : Nat} {cs : List AV} (h : Rd H X q cs) (o n : Nat) (hn : o + n ≤ cs.length) : H.rd X (q + o) n = some ((cs.drop o).take n) := by
 refine rd_at (fun i v hi => ?_) ?_ ?_
 ·rw [List.getElem?_take] at hi
  split at hi
  ·rw [List.getElem?_drop] at hi
   rw [Nat.add_assoc]; exact h.1 _ v hi
  ·cases hi
 ·have := h.2; simp; omega
 ·simp; omega
theorem Rd.of {X : Nat} {cs sp : List AV} (h : H.g X = .rw (cs ++ sp)) (o n : Nat) (hn : o + n ≤ cs.length) : Rd H X o ((cs.drop o).take n) := by
 refine ⟨fun i v hi => ?_, ?_⟩
 ·rw [h]
  rw [List.getElem?_take] at hi
  split at hi
  ·rw [List.getElem?_drop] at hi
   have hl := (List.getElem?_eq_some_iff.1 hi).1
   simp only [Blk.cells]
   rw [List.getElem?_append_left hl]; exact hi
  ·cases hi
 ·rw [h]; simp [Blk.cells]; omega
def pblk (B : List PB) (b : Nat) : Option (Nat × List PV) :=
 match B[b]? with
 | some (.gs true es l) => some (es, l)
 | some (.fz es l) => some (es, l)
 | _ => none
theorem pblk_ok (h : HR L H B) {b es : Nat} {l : List PV} (hb : pblk B b = some (es, l)) : (Rc L.F H (.vs 2 es l) (L.m b) ∧ l = []) ∨ ∃ X, GsX L.F H es l (L.m b) X := by
 unfold pblk at hb
 split at hb
 ·rename_i he
  simp only [Option.some.injEq, Prod.mk.injEq] at hb
  obtain ⟨rfl, rfl⟩ := hb
  obtain ⟨⟨h1, h2⟩ | ⟨X, _, h1⟩, _⟩ := h.bk _ _ he
  ·exact .inl ⟨h1, h2 rfl⟩
  ·exact .inr ⟨X, h1⟩
 ·rename_i he
  simp only [Option.some.injEq, Prod.mk.injEq] at hb
  obtain ⟨rfl, rfl⟩ := hb
  obtain ⟨⟨h1, h2⟩ | ⟨X, _, h1⟩, _⟩ := h.bk _ _ he
  ·exact .inl ⟨h1, h2⟩
  ·exact .inr ⟨X, h1⟩
 ·cases hb
theorem GsX.bk {F : Nat → Prop} {es : Nat} {l : List PV} {a : AV} {X : Nat} (h : GsX F H es l a X) : a.bk = some X := by
 obtain ⟨_, _, _, _, _, ⟨rfl, _⟩ | ⟨_, _, rfl, _⟩⟩ := h <;> rfl
theorem GsX.sl {F : Nat → Prop} {es : Nat} {l : List PV} {a : AV} {X : Nat} (h : GsX F H es l a X) : ∃ cs, Sl H es a l.length cs ∧ RcE F H es l cs := by
 obtain ⟨cs, sp, h1, h2, h3, h4⟩ := h
 have hr : ∀ (i : Nat) v, cs[i]? = some v → (H.g X).cells[0 + i]? = some v := fun i v hi => by
  rw [h2, Nat.zero_add]
  simp only [Blk.cells]
  rw [List.getElem?_append_left (List.getElem?_eq_some_iff.1 hi).1]; exact hi
 have hl : 0 + cs.length ≤ (H.g X).cells.length := by rw [h2]; simp [Blk.cells]
 rcases h4 with ⟨rfl, h5⟩ | ⟨c, h5, rfl, _⟩
 ·exact ⟨cs, .sg h1 hr hl (by rw [h2]; rfl) h3.len h5, h3⟩
 ·exact ⟨cs, .sl h1 hr hl h3.len h5, h3⟩
def pcells (B : List PB) : PV → Option (List PV × Nat)
 | .pt b o => match B[b]? with | some (.va l) => some (l, o) | some (.fv l) => some (l, o) | _ => none
 | .pe l o => some (l, o)
 | .pg es b i o => (pblk B b).bind fun p => if p.1 = es then (p.2[i]?).bind fun e => e.cl.bind fun c => if c.length = es then some (c, o) else none else none
 | _ => none
theorem pcells_ok (h : HR L H B) {x : PV} {a : AV} (hx : Rp L H x a) {l : List PV} {o : Nat} (hc : pcells B x = some (l, o)) : ∃ X q cs, a = .pt X (q + o) ∧ Rd H X q cs ∧ RpL L H l cs := by
 unfold pcells at hc
 split at hc
 ·rename_i b o'
  obtain ⟨h0, X, hm, rfl⟩ := hx
  split at hc
  ·rename_i l' he
   simp only [Option.some.injEq, Prod.mk.injEq] at hc
   obtain ⟨rfl, rfl⟩ := hc
   obtain ⟨X', cs, h1, h2, h3, h4, h5⟩ := h.bk _ _ he
   rw [hm] at h1
   simp only [AV.pt.injEq, and_true] at h1
   subst h1
   refine ⟨X, 0, cs, by rw [Nat.zero_add], ⟨fun i v hi => ?_, ?_⟩, h5⟩
   ·rw [h4, Nat.zero_add]; exact hi
   ·rw [h4]; simp [Blk.cells]
  ·rename_i l' he
   simp only [Option.some.injEq, Prod.mk.injEq] at hc
   obtain ⟨rfl, rfl⟩ := hc
   obtain ⟨⟨X', q, cs, h1, h2, h3, h4⟩, _⟩ := h.bk _ _ he
   rw [hm] at h1
   simp only [AV.pt.injEq] at h1
   obtain ⟨rfl, h1⟩ := h1
   obtain rfl : q = 0 := by omega
   exact ⟨X, 0, cs, by rw [Nat.zero_add], h3, RcL.p _ h4⟩
  ·cases hc
 ·simp only [Option.some.injEq, Prod.mk.injEq] at hc
  obtain ⟨rfl, rfl⟩ := hc
  obtain ⟨X, q, cs, rfl, h2, h3, h4⟩ := hx
  exact ⟨X, q, cs, rfl, h3, RcL.p _ h4⟩
 ·rename_i es b i o'
  obtain ⟨h0, X, hm, rfl⟩ := hx
  simp only [Option.bind_eq_some_iff] at hc
  obtain ⟨⟨es', l'⟩, hb, hc⟩ := hc
  split at hc
  ·rename_i he
   simp only at he; subst he
   simp only [Option.bind_eq_some_iff] at hc
   obtain ⟨e, he, c, hcl, hc⟩ := hc
   split at hc
   ·rename_i hlen
    simp only [Option.some.injEq, Prod.mk.injEq] at hc
    obtain ⟨rfl, rfl⟩ := hc
    rcases pblk_ok h hb with ⟨_, h1⟩ | ⟨X', h1⟩
    ·rw [h1] at he; simp at he
    ·have hX := h1.bk
     rw [hm] at hX
     simp only [Option.some.injEq] at hX; subst hX
     obtain ⟨cs, sp, h2, h3, h4, _⟩ := h1
     obtain ⟨a, r1, r2, r3, r4⟩ := h4.elt he
     obtain ⟨c', hc', hr⟩ := r1.cl hcl
     rw [r2] at hc'
     simp only [Option.some.injEq] at hc'; subst hc'
     exact ⟨X, i * es', _, rfl, Rd.of h3 _ _ (by omega), RcL.p _ hr⟩
   ·cases hc
  ·cases hc
 ·cases hc
def pld (n : Nat) (B : List PB) (x : PV) : Option PV := (pcells B x).bind fun p => psub p.1 p.2 n
def pld1 (B : List PB) (x : PV) : Option PV := (pcells B x).bind fun p => p.1[p.2]?
theorem pld_ok (h : HR L H B) {n : Nat} {x v : PV} {a : AV} (hx : Rp L H x a) (hv : pld n B x = some v) : ∃ c, vld n H a = some c ∧ Rp L H v c := by
 simp only [pld, Option.bind_eq_some_iff] at hv
 obtain ⟨⟨l, o⟩, hp, hv⟩ := hv
 obtain ⟨X, q, cs, rfl, h1, h2⟩ := pcells_ok h hx hp
 simp only [psub] at hv
 split at hv
 ·rename_i hle
  simp only [Option.some.injEq] at hv; subst hv
  refine ⟨.ag ((cs.drop o).take n), ?_, ⟨_, rfl, (h2.drop o).take n⟩⟩
  simp only [vld, h1.sub o n (by rw [h2.len]; exact hle), Option.map_some]
 ·cases hv
theorem pld1_ok (h : HR L H B) {x v : PV} {a : AV} (hx : Rp L H x a) (hv : pld1 B x = some v) : ∃ c, vld1 H a = some c ∧ Rp L H v c := by
 simp only [pld1, Option.bind_eq_some_iff] at hv
 obtain ⟨⟨l, o⟩, hp, hv⟩ := hv
 obtain ⟨X, q, cs, rfl, h1, h2⟩ := pcells_ok h hx hp
 obtain ⟨a, h3, h4⟩ := h2.get hv
 exact ⟨a, h1.1 o a h3, h4⟩
def pia (es : Nat) (B : List PB) : PV → PV → Option PV
 | .vs _ es' l, .it _ i => if 0 ≤ i ∧ i < l.length ∧ es' = es then (l[i.toNat]?).bind fun e => e.cl.map fun c => .pe c 0 else none
 | .gr b, .it _ i => (pblk B b).bind fun p => if 0 ≤ i ∧ i < p.2.length ∧ p.1 = es then some (.pg es b i.toNat 0) else none
 | .gp es' b lo n, .it _ i => (pblk B b).bind fun p => if 0 ≤ i ∧ i < n ∧ p.1 = es ∧ es' = es ∧ lo + n ≤ p.2.length then some (.pg es b (lo + i.toNat) 0) else none
 | _, _ => none
theorem pia_ok (h : HR L H B) {es : Nat} {x y v : PV} {a c : AV} (hx : Rp L H x a) (hy : Rp L H y c) (hv : pia es B x y = some v) : ∃ d, via es H a c = some d ∧ Rp L H v d := by
 unfold pia at hv
 split at hv
 ·rename_i es' l k i
  simp only [Rp] at hy; subst hy
  split at hv
  ·rename_i hcnd
   obtain ⟨hi0, hi, rfl⟩ := hcnd
   simp only [Option.bind_eq_some_iff, Option.map_eq_some_iff] at hv
   obtain ⟨e, he, c, hcl, rfl⟩ := hv
   obtain ⟨⟨cs, h1, h2, h3⟩, _⟩ := hx
   obtain ⟨a', r1, r2, r3, r4⟩ := h3.elt he
   obtain ⟨c', hc', hr⟩ := r1.cl hcl
   rw [r2] at hc'
   simp only [Option.some.injEq] at hc'; subst hc'
   generalize hlen : l.length = n at *
   cases h1 with
   | sn => omega
   | @sl X o _ cp _ g1 g2 g3 g4 g5 =>
    refine ⟨.pt X (o + i.toNat * es'), by simp only [via]; rw [if_pos ⟨hi0, hi⟩], ?_⟩
    refine ⟨X, o + i.toNat * es', _, by rw [Nat.add_zero], h2 X rfl, ⟨fun t u hu => ?_, by omega⟩, hr⟩
    rw [List.getElem?_take] at hu
    split at hu
    ·rw [List.getElem?_drop] at hu
     rw [Nat.add_assoc]; exact g2 _ u hu
    ·cases hu
   | @sg X o q _ _ g1 g2 g3 g4 g5 g6 =>
    refine ⟨.pt X (o + i.toNat * es'), by simp only [via]; rw [if_pos ⟨trivial, g6, by omega, g4, hi0, hi⟩], ?_⟩
    refine ⟨X, o + i.toNat * es', _, by rw [Nat.add_zero], h2 X rfl, ⟨fun t u hu => ?_, by omega⟩, hr⟩
    rw [List.getElem?_take] at hu
    split at hu
    ·rw [List.getElem?_drop] at hu
     rw [Nat.add_assoc]; exact g2 _ u hu
    ·cases hu
  ·cases hv
 ·rename_i b k i
  simp only [Rp] at hy; subst hy
  obtain ⟨h0, rfl, _⟩ := hx
  simp only [Option.bind_eq_some_iff] at hv
  obtain ⟨⟨es', l⟩, hb, hv⟩ := hv
  split at hv
  ·rename_i hcnd
   obtain ⟨hi0, hi, rfl⟩ := hcnd
   simp only [Option.some.injEq] at hv; subst hv
   simp only at hi
   rcases pblk_ok h hb with ⟨_, h1⟩ | ⟨X, h1⟩
   ·rw [h1] at hi; simp at hi; omega
   ·have hX := h1.bk
    obtain ⟨cs, sp, h2, h3, h4, h5⟩ := h1
    have hl := h4.len
    refine ⟨.pt X (i.toNat * es'), ?_, h0, X, hX, rfl⟩
    rcases h5 with ⟨h5, h6⟩ | ⟨cp, h6, h5, _⟩
    ·rw [h5]; simp only [via]
     rw [if_pos ⟨trivial, h6, by rw [h3]; simp [Blk.cells]; omega, by rw [h3]; rfl, hi0, hi⟩, Nat.zero_add]
    ·rw [h5]; simp only [via]
     rw [if_pos ⟨hi0, hi⟩, Nat.zero_add]
  ·cases hv
 ·rename_i es' b lo n k i
  simp only [Rp] at hy; subst hy
  obtain ⟨h0, hx⟩ := hx
  simp only [Option.bind_eq_some_iff] at hv
  obtain ⟨⟨es2, l⟩, hb, hv⟩ := hv
  split at hv
  ·rename_i hcnd
   obtain ⟨hi0, hi, h7, rfl, hle⟩ := hcnd
   simp only at h7 hle; subst h7
   simp only [Option.some.injEq] at hv; subst hv
   have hin : n ≠ 0 := by omega
   have hlo : lo + n ≤ l.length := hle
   rcases pblk_ok h hb with ⟨_, h1⟩ | ⟨X, h1⟩
   ·rw [h1] at hlo; simp at hlo; omega
   ·have hX := h1.bk
    obtain ⟨cs, sp, h2, h3, h4, h5⟩ := h1
    have hl := h4.len
    have hmul : lo * es2 + n * es2 ≤ cs.length := by rw [hl, ← Nat.add_mul]; exact Nat.mul_le_mul_right _ hlo
    refine ⟨.pt X ((lo + i.toNat) * es2), ?_, h0, X, hX, rfl⟩
    rcases hx with ⟨h9, _⟩ | ⟨X', hX', ⟨o, cp, rfl, h9, h10⟩ | ⟨o, q, n0, rfl, hes, h10, _⟩⟩
    ·omega
    ·rw [hX] at hX'; simp only [Option.some.injEq] at hX'; subst hX'
     simp only [via]
     rw [if_pos ⟨hi0, hi⟩, h10.resolve_left (fun h => hin h.1), Nat.add_mul]
    ·rw [hX] at hX'; simp only [Option.some.injEq] at hX'; subst hX'
     simp only [via]
     rw [if_pos ⟨trivial, hes, by rw [h10, h3]; simp [Blk.cells]; omega, by rw [h3]; rfl, hi0, hi⟩, h10, Nat.add_mul]
  ·cases hv
 ·cases hv
end
end Go.AX
end
section
namespace Go.AX
open Go
section
variable {L : Lk} {H : AH} {B : List PB} {E : Nat → PV} {Ea : Env}
def plen (B : List PB) : PV → Option PV
 | .sn => some (.it .i64 0)
 | .vs _ _ l => some (.it .i64 l.length)
 | .gr b => match B[b]? with | some (.gs _ _ l) => some (.it .i64 l.length) | some (.fz _ l) => some (.it .i64 l.length) | _ => none
 | .gp _ _ _ n => some (.it .i64 n)
 | _ => none
theorem Rc_vs_len {F : Nat → Prop} {w es : Nat} {l : List PV} {a : AV} (h : Rc F H (.vs w es l) a) : vlen 1 H a = some (.it .i64 l.length) := by
 obtain ⟨⟨cs, h1, _⟩, _⟩ := h
 exact h1.len H
theorem GsX.len {F : Nat → Prop} {es : Nat} {l : List PV} {a : AV} {X : Nat} (h : GsX F H es l a X) : vlen 1 H a = some (.it .i64 l.length) := by
 obtain ⟨_, _, _, _, _, ⟨rfl, _⟩ | ⟨_, _, rfl, _⟩⟩ := h <;> rfl
theorem plen_ok (h : HR L H B) {x v : PV} {a : AV} (hx : Rp L H x a) (hv : plen B x = some v) : ∃ c, vlen 1 H a = some c ∧ Rp L H v c := by
 unfold plen at hv
 split at hv
 ·simp only [Option.some.injEq] at hv; subst hv
  simp only [Rp] at hx; subst hx
  exact ⟨_, rfl, rfl⟩
 ·simp only [Option.some.injEq] at hv; subst hv
  exact ⟨_, Rc_vs_len hx, rfl⟩
 ·obtain ⟨h0, rfl, _⟩ := hx
  split at hv
  ·rename_i he
   simp only [Option.some.injEq] at hv; subst hv
   obtain ⟨⟨h1, _⟩ | ⟨X, _, h1⟩, _⟩ := h.bk _ _ he
   ·exact ⟨_, Rc_vs_len h1, rfl⟩
   ·exact ⟨_, h1.len, rfl⟩
  ·rename_i he
   simp only [Option.some.injEq] at hv; subst hv
   obtain ⟨⟨h1, _⟩ | ⟨X, _, h1⟩, _⟩ := h.bk _ _ he
   ·exact ⟨_, Rc_vs_len h1, rfl⟩
   ·exact ⟨_, h1.len, rfl⟩
  ·cases hv
 ·simp only [Option.some.injEq] at hv; subst hv
  obtain ⟨_, ⟨rfl, h1⟩ | ⟨_, _, ⟨_, _, rfl, _⟩ | ⟨_, _, _, rfl, _⟩⟩⟩ := hx
  ·exact ⟨_, Rc_vs_len h1, rfl⟩
  ·exact ⟨_, rfl, rfl⟩
  ·exact ⟨_, rfl, rfl⟩
 ·cases hv
def plen0 : PV → Option PV
 | .st s => some (.it .i64 s.size)
 | _ => none
def pslc (es : Nat) (B : List PB) (E : Nat → PV) (x : PV) (lo hi mx : Option Opd) : Option PV :=
 match x with
 | .sn => (pbnd E 0 0 mx).bind fun m => (pbnd E 0 m hi).bind fun h => (pbnd E 0 h lo).bind fun l => some .sn
 | .vs w es' l =>
  if es' = es then
   match mx with
   | none => (pbnd E l.length l.length hi).bind fun h => (pbnd E 0 h lo).bind fun k => some (.vs (if lo = none then min w 1 else if 2 ≤ w then 1 else 0) es ((l.take h).drop k))
   | some m => match hi with
    | none => none
    | some hi => (pbnd E l.length l.length (some m)).bind fun m => (pbnd E l.length m (some hi)).bind fun h => (pbnd E 0 h lo).bind fun k => if 1 ≤ w ∨ 0 < l.length then some (.vs (if h = m then 2 else 1) es ((l.take h).drop k)) else none
  else none
 | .gr b => (pblk B b).bind fun p => if p.1 = es then match mx with
   | none => (pbnd E p.2.length p.2.length hi).bind fun h => (pbnd E 0 h lo).bind fun k => some (.gp es b k (h - k))
   | some _ => none
  else none
 | _ => none
theorem pbnd_le {d top k : Nat} {x : Option Opd} (hd : d ≤ top) (h : pbnd E d top x = some k) : k ≤ top := by
 cases x with
 | none => simp only [pbnd, Option.some.injEq] at h; omega
 | some x =>
  simp only [pbnd] at h
  split at h
  ·split at h
   ·simp only [Option.some.injEq] at h; omega
   ·cases h
  ·cases h
theorem bnd_more {d top top' k : Nat} {x : Option Opd} (ht : top ≤ top') (h : bnd Ea d top x = some k) : bnd Ea d top' x = some k := by
 cases x with
 | none => exact h
 | some x =>
  simp only [bnd] at h ⊢
  split at h
  ·split at h
   ·rw [if_pos ⟨by omega, by omega⟩]; exact h
   ·cases h
  ·cases h
theorem sl_sub {es n X o : Nat} {cs : List AV} (h : Rd H X o cs) (k h' : Nat) (hk : k ≤ h') (hh : h' * es ≤ cs.length) : Rd H X (o + k * es) ((cs.take (h' * es)).drop (k * es)) := by
 have hm : k * es ≤ h' * es := Nat.mul_le_mul_right _ hk
 refine ⟨fun i v hi => ?_, ?_⟩
 ·rw [List.getElem?_drop, List.getElem?_take] at hi
  split at hi
  ·rw [Nat.add_assoc]; exact h.1 _ v hi
  ·cases hi
 ·have := h.2; simp; omega
theorem slcSl_bk {es b o l h m : Nat} : (slcSl es b o l h m).bk = some b := rfl
theorem Rc_cut {F : Nat → Prop} {es X o n h' k m : Nat} {l : List PV} {cs : List AV} (hb : X < H.nx) (hF : F X) (hr : Rd H X o cs) (he : RcE F H es l cs) (hn : l.length = n) (hk : k ≤ h') (hh : h' ≤ n) (hm : h' ≤ m) {w : Nat} (hw : 2 ≤ w → h' = m) :
  Rc F H (.vs w es ((l.take h').drop k)) (slcSl es X o k h' m) := by
 have hl := he.len
 have hmul : h' * es ≤ cs.length := by rw [hl, hn]; exact Nat.mul_le_mul_right _ hh
 have hlen : ((l.take h').drop k).length = h' - k := by simp; omega
 have h1 := sl_sub (es := es) (n := n) hr k h' hk hmul
 have hclen : ((cs.take (h' * es)).drop (k * es)).length = (h' - k) * es := by
  have : k * es ≤ h' * es := Nat.mul_le_mul_right _ hk
  simp; rw [Nat.sub_mul]; omega
 refine ⟨⟨(cs.take (h' * es)).drop (k * es), ?_, fun b hb => ?_, (he.take h').drop k⟩, fun _ b o' q n' e h => by simp [slcSl] at h, fun h2 => ?_⟩
 ·rw [hlen]
  unfold slcSl
  by_cases hmk : m = k
  ·rw [if_pos hmk]
   have : h' = k := by omega
   subst this
   have hnil : (cs.take (h' * es)).drop (h' * es) = [] := List.drop_of_length_le (by simp; omega)
   rw [hnil]
   exact .sl hb (fun i v hi => by simp at hi) (by have := hr.2; simp; omega) (by simp) (by omega)
  ·rw [if_neg hmk]
   exact .sl hb h1.1 h1.2 hclen (by omega)
 ·simp only [slcSl_bk, Option.some.injEq] at hb; subst hb; exact hF
 ·rw [hlen]
  have := hw h2
  subst this
  exact .inr ⟨X, _, rfl⟩
theorem Rc_snil {F : Nat → Prop} {w es : Nat} : Rc F H (.vs w es []) .sn :=
 ⟨⟨[], ⟨Sl.sn, fun b hb => by simp [AV.bk] at hb, by simp only [RcE]⟩⟩, (by intro _ b o q n e h; cases h), (by intro _; exact Or.inl rfl)⟩
theorem pslc_ok (hR : HR L H B) (hE : ER L H E Ea) {es : Nat} {x v : PV} {a : AV} {lo hi mx : Option Opd} (hx : Rp L H x a) (hv : pslc es B E x lo hi mx = some v) : ∃ c, vslc es H Ea a lo hi mx = some c ∧ Rp L H v c := by
 unfold pslc at hv
 split at hv
 ·simp only [Rp] at hx; subst hx
  simp only [Option.bind_eq_some_iff, Option.some.injEq] at hv
  obtain ⟨m, hm, h, hh, k, hk, rfl⟩ := hv
  have h0 := pbnd_ok hE hm
  have h1 := pbnd_ok hE hh
  have h2 := pbnd_ok hE hk
  refine ⟨.sn, ?_, rfl⟩
  simp only [vslc, h0, h1, h2, Option.bind_some]
 ·rename_i w es' l
  split at hv
  ·rename_i he; subst he
   obtain ⟨⟨cs, h1, h2, h3⟩, h4, h5⟩ := hx
   generalize hlen : l.length = n at *
   split at hv
   ·simp only [Option.bind_eq_some_iff, Option.some.injEq] at hv
    obtain ⟨h, hh, k, hk, rfl⟩ := hv
    have hn := pbnd_le (Nat.le_refl _) hh
    have hkh := pbnd_le (Nat.zero_le _) hk
    have b1 := pbnd_ok hE hh
    have b2 := pbnd_ok hE hk
    cases h1 with
    | sn =>
     have : l = [] := List.eq_nil_of_length_eq_zero hlen
     subst this
     have b3 : bnd Ea 0 0 none = some 0 := rfl
     refine ⟨.sn, by simp only [vslc, b3, Option.bind_some, b1, b2], ?_⟩
     have hnil : (List.take h ([] : List PV)).drop k = [] := by simp
     rw [hnil]
     exact Rc_snil
    | @sl X o _ c _ g1 g2 g3 g4 g5 =>
     have b3 : bnd Ea c c none = some c := rfl
     refine ⟨slcSl es' X o k h c, by simp only [vslc, b3, Option.bind_some, bnd_more g5 b1, b2], ?_⟩
     refine Rc_cut g1 (h2 X rfl) ⟨g2, g3⟩ h3 hlen hkh hn (by omega) (fun hw => ?_)
     exfalso
     split at hw
     ·omega
     ·split at hw <;> omega
    | @sg X o q _ _ g1 g2 g3 g4 g5 g6 =>
     have hmul : n * es' ≤ (H.g X).cells.length - o := by omega
     have hl := h3.len
     have hlen2 : ((l.take h).drop k).length = h - k := by simp; omega
     have hrd := sl_sub (es := es') (n := n) ⟨g2, g3⟩ k h hkh (by rw [g5]; exact Nat.mul_le_mul_right _ hn)
     have hclen : ((cs.take (h * es')).drop (k * es')).length = (h - k) * es' := by
      have t1 : k * es' ≤ h * es' := Nat.mul_le_mul_right _ hkh
      have t2 : h * es' ≤ n * es' := Nat.mul_le_mul_right _ hn
      simp; rw [Nat.sub_mul]; omega
     refine ⟨if k = 0 then .sg X o q h es' else .sg X (o + k * es') o (h - k) es', ?_, ?_⟩
     ·simp only [vslc]
      rw [if_pos ⟨trivial, g6, by omega, g4⟩]
      simp only [b1, b2, Option.bind_some]
     ·by_cases hk0 : k = 0
      ·subst hk0
       rw [if_pos rfl]
       simp only [Nat.zero_mul, Nat.add_zero, Nat.sub_zero] at hrd hclen hlen2
       refine ⟨⟨_, by rw [hlen2]; exact .sg g1 hrd.1 hrd.2 g4 hclen g6, fun b hb => h2 b hb, by simpa using (h3.take h).drop 0⟩, fun hw b o' q' n' e he => ?_, fun hw => ?_⟩
       ·simp only [AV.sg.injEq] at he
        obtain ⟨rfl, rfl, rfl, _⟩ := he
        have hw1 : 1 ≤ w := by
         split at hw
         ·omega
         ·split at hw <;> omega
        exact h4 hw1 _ _ _ _ _ rfl
       ·exfalso
        split at hw
        ·omega
        ·split at hw <;> omega
      ·rw [if_neg hk0]
       refine ⟨⟨_, by rw [hlen2]; exact .sg g1 hrd.1 hrd.2 g4 hclen g6, fun b hb => h2 b hb, (h3.take h).drop k⟩, fun hw => ?_, fun hw => ?_⟩
       ·exfalso
        split at hw
        ·rename_i hl0; rw [hl0] at hk; simp only [pbnd, Option.some.injEq] at hk; omega
        ·split at hw
         ·rename_i hw2
          rcases h5 hw2 with h5 | ⟨_, _, h5⟩ <;> cases h5
         ·omega
       ·exfalso
        split at hw
        ·omega
        ·split at hw <;> omega
   ·rename_i m
    split at hv
    ·cases hv
    rename_i hi
    simp only [Option.bind_eq_some_iff] at hv
    obtain ⟨m', hm, h, hh, k, hk, hv⟩ := hv
    split at hv
    ·rename_i hcnd
     simp only [Option.some.injEq] at hv; subst hv
     have hmn := pbnd_le (Nat.le_refl _) hm
     have b1 := pbnd_ok hE hm
     have b2 := pbnd_ok hE hh
     have b3 := pbnd_ok hE hk
     have hkh := pbnd_le (Nat.zero_le _) hk
     have hhm : h ≤ m' := by
      simp only [pbnd] at hh
      split at hh
      ·split at hh
       ·simp only [Option.some.injEq] at hh; omega
       ·cases hh
      ·cases hh
     have hw2 : 2 ≤ (if h = m' then 2 else 1) → h = m' := fun hw => by split at hw <;> omega
     cases h1 with
     | sn =>
      have : l = [] := List.eq_nil_of_length_eq_zero hlen
      subst this
      refine ⟨.sn, by simp only [vslc, show bnd Ea 0 0 (some m) = some m' from b1, Option.bind_some, show bnd Ea 0 m' (some hi) = some h from b2, b3], ?_⟩
      have hnil : (List.take h ([] : List PV)).drop k = [] := by simp
      rw [hnil]
      exact Rc_snil
     | @sl X o _ c _ g1 g2 g3 g4 g5 =>
      refine ⟨slcSl es' X o k h m', by simp only [vslc, show bnd Ea c c (some m) = some m' from bnd_more g5 b1, Option.bind_some, b2, b3], ?_⟩
      exact Rc_cut g1 (h2 X rfl) ⟨g2, g3⟩ h3 hlen hkh (by omega) hhm hw2
     | @sg X o q _ _ g1 g2 g3 g4 g5 g6 =>
      refine ⟨slcSl es' X o k h m', ?_, Rc_cut g1 (h2 X rfl) ⟨g2, g3⟩ h3 hlen hkh (by omega) hhm hw2⟩
      simp only [vslc]
      rw [if_pos ⟨trivial, g6, by omega, g4⟩]
      simp only [b1, b2, b3, Option.bind_some]
      rw [if_pos]
      rcases hcnd with hw | hkm
      ·exact .inl (h4 hw _ _ _ _ _ rfl)
      ·exact .inr hkm
    ·cases hv
  ·cases hv
 ·rename_i b
  obtain ⟨h0, rfl, _⟩ := hx
  simp only [Option.bind_eq_some_iff] at hv
  obtain ⟨⟨es', l⟩, hb, hv⟩ := hv
  split at hv
  ·rename_i he
   simp only at he; subst he
   split at hv
   ·simp only [Option.bind_eq_some_iff, Option.some.injEq] at hv
    obtain ⟨h, hh, k, hk, rfl⟩ := hv
    have hn := pbnd_le (Nat.le_refl _) hh
    have hkh := pbnd_le (Nat.zero_le _) hk
    have b1 := pbnd_ok hE hh
    have b2 := pbnd_ok hE hk
    rcases pblk_ok hR hb with ⟨⟨⟨cs, h1, h1b, h1c⟩, _, h5⟩, hnil⟩ | ⟨X, h1⟩
    ·subst hnil
     simp only [List.length_nil] at hn b1 h5
     rcases h5 (Nat.le_refl _) with h5 | ⟨X, o, h5⟩
     ·rw [h5]
      exact ⟨.sn, by simp only [vslc, show bnd Ea 0 0 none = some 0 from rfl, Option.bind_some, b1, b2], h0, .inl ⟨by omega, Rc_snil⟩⟩
     ·rw [h5]
      refine ⟨slcSl es' X o k h 0, by simp only [vslc, show bnd Ea 0 0 none = some 0 from rfl, Option.bind_some, b1, b2], h0, .inl ⟨by omega, ?_⟩⟩
      have hk0 : k = 0 := by omega
      have hh0 : h = 0 := by omega
      subst hk0; subst hh0
      rw [h5] at h1 h1b
      simp only [slcSl, if_true]
      exact ⟨⟨cs, h1, h1b, h1c⟩, (by intro hw; omega), (by intro hw; omega)⟩
    ·have hX := h1.bk
     obtain ⟨cs, sp, g1, g2, g3, g4⟩ := h1
     have hl := g3.len
     rcases g4 with ⟨g4, g5⟩ | ⟨c, g5, g4, _⟩
     ·rw [show vslc es' H Ea (L.m b) lo hi none = vslc es' H Ea (.sg X 0 0 l.length es') lo hi none by rw [g4]]
      refine ⟨if k = 0 then .sg X 0 0 h es' else .sg X (0 + k * es') 0 (h - k) es', ?_, h0, .inr ⟨X, hX, .inr ?_⟩⟩
      ·simp only [vslc]
       rw [if_pos ⟨trivial, g5, by rw [g2]; simp [Blk.cells]; omega, by rw [g2]; rfl⟩]
       simp only [b1, b2, Option.bind_some]
      ·by_cases hk0 : k = 0
       ·subst hk0
        exact ⟨0, 0, _, by rw [if_pos rfl]; rfl, g5, by simp, g4⟩
       ·exact ⟨_, _, _, by rw [if_neg hk0], g5, by simp, g4⟩
     ·rw [g4]
      refine ⟨slcSl es' X 0 k h c, by simp only [vslc, show bnd Ea c c none = some c from rfl, Option.bind_some, bnd_more g5 b1, b2], h0, .inr ⟨X, hX, .inl ⟨_, _, rfl, by omega, ?_⟩⟩⟩
      by_cases hck : c = k
      ·left; rw [if_pos hck]; exact ⟨by omega, Nat.zero_le _⟩
      ·right; rw [if_neg hck, Nat.zero_add]
   ·cases hv
  ·cases hv
 ·cases hv
def pixs : PV → PV → Option PV
 | .st s, .it _ i => if h : 0 ≤ i ∧ i.toNat < s.size then some (.it .u8 ((s[i.toNat]'h.2).toNat : Int)) else none
 | _, _ => none
theorem pixs_ok {x y v : PV} {a b : AV} (hx : Rp L H x a) (hy : Rp L H y b) (h : pixs x y = some v) : ∃ c, vixs a b = some c ∧ Rp L H v c := by
 cases x <;> cases y <;> simp only [pixs, reduceCtorEq] at h
 simp only [Rp] at hx hy; subst hx; subst hy
 split at h
 ·rename_i hi
  simp only [Option.some.injEq] at h; subst h
  exact ⟨_, by simp only [vixs]; rw [dif_pos hi], rfl⟩
 ·cases h
def pta (t : TypeId) (z : AV) : PV → Option PV
 | .ni => some (.tu [ofAV z, .bo false])
 | .fc u v => match Nat.beq u t with | true => some (.tu [v, .bo true]) | false => some (.tu [ofAV z, .bo false])
 | _ => none
theorem pta_ok {t : TypeId} {z : AV} {x v : PV} {a : AV} (hx : Rp L H x a) (h : pta t z x = some v) : ∃ c, vta t z a = some c ∧ Rp L H v c := by
 cases x <;> simp only [pta, reduceCtorEq] at h
 ·simp only [Rp] at hx; subst hx
  simp only [Option.some.injEq] at h; subst h
  exact ⟨_, rfl, ⟨_, rfl, z, [.bo false], rfl, Rc.p _ (Rc_of z), .bo false, [], rfl, rfl, rfl⟩⟩
 ·rename_i u y
  obtain ⟨v', rfl, h2⟩ := hx
  split at h
  ·rename_i he
   simp only [Option.some.injEq] at h; subst h
   have he := Nat.eq_of_beq_eq_true he
   exact ⟨_, by simp only [vta, if_pos he], ⟨_, rfl, v', [.bo true], rfl, h2, .bo true, [], rfl, rfl, rfl⟩⟩
  ·rename_i he
   simp only [Option.some.injEq] at h; subst h
   have he : ¬ u = t := fun e => by rw [e, Nat.beq_refl] at he; cases he
   exact ⟨_, by simp only [vta, if_neg he], ⟨_, rfl, z, [.bo false], rfl, Rc.p _ (Rc_of z), .bo false, [], rfl, rfl, rfl⟩⟩
def pcap : PV → Option PV
 | .sn => some (.it .i64 0)
 | .vs w _ l => match Nat.ble 2 w with | true => some (.it .i64 l.length) | false => none
 | _ => none
theorem pcap_ok {x v : PV} {a : AV} (hx : Rp L H x a) (h : pcap x = some v) : ∃ c, vcap a = some c ∧ Rp L H v c := by
 cases x <;> simp only [pcap, reduceCtorEq] at h
 ·simp only [Rp] at hx; subst hx
  simp only [Option.some.injEq] at h; subst h
  exact ⟨_, rfl, rfl⟩
 ·rename_i w es l
  split at h
  ·rename_i hw
   simp only [Option.some.injEq] at h; subst h
   obtain ⟨⟨cs, h1, _⟩, _, h3⟩ := hx
   rcases h3 (Nat.le_of_ble_eq_true hw) with rfl | ⟨b, o, rfl⟩
   ·generalize hn : l.length = n at h1
    cases h1
    exact ⟨_, rfl, by simp only [Rp, hn]; rfl⟩
   ·exact ⟨_, rfl, rfl⟩
  ·cases h
def pcvsame (B : List PB) : PV → Option PV
 | .gr b => match B[b]? with | some (.gs true _ (_ :: _)) => some (.gr b) | _ => none
 | _ => none
theorem pcvsame_ok (h : HR L H B) {x v : PV} {a : AV} (hx : Rp L H x a) (hv : pcvsame B x = some v) : ∃ c, vcvsame H a = some c ∧ Rp L H v c := by
 cases x <;> simp only [pcvsame, reduceCtorEq] at hv
 rename_i b
 split at hv
 ·rename_i es y l hb
  simp only [Option.some.injEq] at hv; subst hv
  obtain ⟨hlt, rfl, hcl⟩ := hx
  have hk := h.bk _ _ hb
  obtain ⟨⟨_, h6⟩ | ⟨X, hF, cs, sp, h1, h2, h3, h4⟩, h7⟩ := hk
  ·cases h6 rfl
  ·have hown : (H.g X).own = true := by rw [h2]; rfl
   rcases h4 with ⟨e, _⟩ | ⟨c, _, e, _⟩
   ·exact ⟨L.m b, by rw [e]; simp only [vcvsame]; rw [if_pos hown], hlt, rfl, hcl⟩
   ·exact ⟨L.m b, by rw [e]; simp only [vcvsame]; rw [if_pos hown], hlt, rfl, hcl⟩
 ·cases hv
def plkp (z : AV) (ok : Bool) (B : List PB) : PV → PV → Option PV
 | .gr b, .it k n => match B[b]? with
  | some (.mi (_ :: es)) => (mfindI k n es).map fun r => match r with | some (v, _) => (if ok then .tu [ofAV v, .bo true] else ofAV v) | none => (if ok then .tu [ofAV z, .bo false] else ofAV z)
  | _ => none
 | _, _ => none
theorem plkp_ok (h : HR L H B) {z : AV} {ok : Bool} {x i v : PV} {a c : AV} (hx : Rp L H x a) (hi : Rp L H i c) (hv : plkp z ok B x i = some v) : ∃ d, vlkp z ok H a c = some d ∧ Rp L H v d := by
 unfold plkp at hv
 split at hv
 ·rename_i b k n
  simp only [Rp] at hi; subst hi
  split at hv
  ·rename_i hd es hb
   obtain ⟨r, hr, rfl⟩ := Option.map_eq_some_iff.1 hv
   obtain ⟨hlt, rfl, hcl⟩ := hx
   obtain ⟨X, h1, h2, h3, h4⟩ := h.bk _ _ hb
   rw [h1]
   simp only [vlkp, h4, hr, Option.map_some]
   cases r with
   | none =>
    refine ⟨_, rfl, ?_⟩
    cases ok
    ·exact Rc.p _ (Rc_of z)
    ·exact ⟨_, rfl, _, _, rfl, Rc.p _ (Rc_of z), _, _, rfl, rfl, rfl⟩
   | some vs =>
    obtain ⟨v, s⟩ := vs
    refine ⟨_, rfl, ?_⟩
    cases ok
    ·exact Rc.p _ (Rc_of v)
    ·exact ⟨_, rfl, _, _, rfl, Rc.p _ (Rc_of v), _, _, rfl, rfl, rfl⟩
  ·cases hv
 ·cases hv
def plen2 (B : List PB) : PV → Option PV
 | .gr b => match B[b]? with
  | some (.mi es) => some (.it .i64 ((es.length : Int) - 1))
  | _ => none
 | _ => none
theorem plen2_ok (h : HR L H B) {x v : PV} {a : AV} (hx : Rp L H x a) (hv : plen2 B x = some v) : ∃ d, vlen 2 H a = some d ∧ Rp L H v d := by
 unfold plen2 at hv
 split at hv
 ·rename_i b
  split at hv
  ·rename_i es hb
   cases hv
   obtain ⟨hlt, rfl, hcl⟩ := hx
   obtain ⟨X, h1, h2, h3, h4⟩ := h.bk _ _ hb
   rw [h1]
   simp only [vlen, h4]
   exact ⟨_, rfl, rfl⟩
  ·cases hv
 ·cases hv
def pvop (E : Nat → PV) (B : List PB) : VOp → Option PV
 | .mv x => some (pev E x)
 | .pick c a b => ppick (pev E c) (pev E a) (pev E b)
 | .bld z ps => (pfill E (z.map ofAV) ps).map .ag
 | .ld n x => pld n B (pev E x)
 | .ld1 x => pld1 B (pev E x)
 | .nilc x => pnilc (pev E x)
 | .bin op te cn x y => pbin op te cn (pev E x) (pev E y)
 | .un op x => pun op (pev E x)
 | .cvi k x => pcvi k (pev E x)
 | .mkif t x => some (.fc t (pev E x))
 | .mkfn f a c => some (.fn f (a.map (pev E)) (c.map (pev E)))
 | .slc es x lo hi mx => pslc es B E (pev E x) lo hi mx
 | .fa o x => pfa o (pev E x)
 | .fld o n ag x => pfld o n ag (pev E x)
 | .ia es x i => pia es B (pev E x) (pev E i)
 | .iaa n es x i => piaa n es (pev E x) (pev E i)
 | .ix n es ag x i => pix n es ag (pev E x) (pev E i)
 | .ext x i => pext i (pev E x)
 | .len 1 x => plen B (pev E x)
 | .len 0 x => plen0 (pev E x)
 | .len 2 x => plen2 B (pev E x)
 | .lkp z ok x i => plkp z ok B (pev E x) (pev E i)
 | .lenk n => some (.it .i64 n)
 | .mm mx (x :: r) => pmmL mx (pev E x) (r.map (pev E))
 | .ixs x i => pixs (pev E x) (pev E i)
 | .ta t z x => pta t z (pev E x)
 | .cap x => pcap (pev E x)
 | .cvsame x => pcvsame B (pev E x)
 | _ => none
theorem ppick_ok {x y z v : PV} {a b c : AV} (hx : Rp L H x a) (hy : Rp L H y b) (hz : Rp L H z c) (h : ppick x y z = some v) : ∃ d, AV.pick a b c = some d ∧ Rp L H v d := by
 cases x <;> simp only [ppick, reduceCtorEq, Option.some.injEq] at h
 rename_i t
 simp only [Rp] at hx; subst hx; subst h
 cases t
 ·exact ⟨c, rfl, hz⟩
 ·exact ⟨b, rfl, hy⟩
theorem RpL_ofAV : ∀ (z : List AV), RpL L H (z.map ofAV) z
 | [] => by simp [RpL]
 | v :: r => ⟨v, r, rfl, Rc.p _ (Rc_of v), RpL_ofAV r⟩
theorem pvop_ok (hR : HR L H B) (hE : ER L H E Ea) {vo : VOp} {v : PV} (hv : pvop E B vo = some v) : ∃ c, vop vo Ea H = some (c, H) ∧ Rp L H v c := by
 have fin : ∀ {r : Option AV}, vop vo Ea H = r.map (·, H) → (∃ c, r = some c ∧ Rp L H v c) → ∃ c, vop vo Ea H = some (c, H) ∧ Rp L H v c := by
  rintro r h ⟨c, rfl, h2⟩
  exact ⟨c, h, h2⟩
 unfold pvop at hv
 split at hv
 ·simp only [Option.some.injEq] at hv; subst hv
  exact ⟨_, rfl, Rp_ev hE _⟩
 ·exact fin rfl (ppick_ok (Rp_ev hE _) (Rp_ev hE _) (Rp_ev hE _) hv)
 ·obtain ⟨l, hl, rfl⟩ := Option.map_eq_some_iff.1 hv
  obtain ⟨l', h1, h2⟩ := pfill_ok hE _ (RpL_ofAV _) hl
  exact ⟨.ag l', by simp only [vop, h1, Option.map_some], ⟨_, rfl, h2⟩⟩
 ·exact fin rfl (pld_ok hR (Rp_ev hE _) hv)
 ·exact fin rfl (pld1_ok hR (Rp_ev hE _) hv)
 ·exact fin rfl (pnilc_ok (Rp_ev hE _) hv)
 ·exact fin rfl (pbin_ok (Rp_ev hE _) (Rp_ev hE _) hv)
 ·exact fin rfl (pun_ok (Rp_ev hE _) hv)
 ·exact fin rfl (pcvi_ok (Rp_ev hE _) hv)
 ·simp only [Option.some.injEq] at hv; subst hv
  exact ⟨_, rfl, ⟨_, rfl, Rp_ev hE _⟩⟩
 ·simp only [Option.some.injEq] at hv; subst hv
  exact ⟨_, rfl, ⟨_, _, rfl, RpL_map hE _, RpL_map hE _⟩⟩
 ·exact fin rfl (pslc_ok hR hE (Rp_ev hE _) hv)
 ·obtain ⟨b, p, h1, h2⟩ := pfa_ok (Rp_ev hE _) hv
  exact ⟨_, by simp only [vop, h1, vfa, Option.map_some], h2⟩
 ·exact fin rfl (pfld_ok (Rp_ev hE _) hv)
 ·exact fin rfl (pia_ok hR (Rp_ev hE _) (Rp_ev hE _) hv)
 ·exact fin rfl (piaa_ok (Rp_ev hE _) (Rp_ev hE _) hv)
 ·exact fin rfl (pix_ok (Rp_ev hE _) (Rp_ev hE _) hv)
 ·exact fin rfl (pext_ok (Rp_ev hE _) hv)
 ·exact fin rfl (plen_ok hR (Rp_ev hE _) hv)
 ·rename_i x
  have hx := Rp_ev hE x
  generalize pev E x = u at *
  cases u <;> simp only [plen0, reduceCtorEq, Option.some.injEq] at hv
  subst hv
  simp only [Rp] at hx
  exact ⟨_, by simp only [vop, hx, vlen, Option.map_some], rfl⟩
 ·exact fin rfl (plen2_ok hR (Rp_ev hE _) hv)
 ·exact fin rfl (plkp_ok hR (Rp_ev hE _) (Rp_ev hE _) hv)
 ·simp only [Option.some.injEq] at hv; subst hv
  exact ⟨_, rfl, rfl⟩
 ·exact fin rfl (pmmL_ok (Rp_ev hE _) (RpL_map hE _) hv)
 ·exact fin rfl (pixs_ok (Rp_ev hE _) (Rp_ev hE _) hv)
 ·exact fin rfl (pta_ok (Rp_ev hE _) hv)
 ·exact fin rfl (pcap_ok (Rp_ev hE _) hv)
 ·exact fin rfl (pcvsame_ok hR (Rp_ev hE _) hv)
 ·cases hv
end
end Go.AX
end
section
namespace Go.AX
open Go
def Lk.put (L : Lk) (a : AV) : Lk := ⟨L.n + 1, fun b => if b = L.n then a else L.m b, L.F⟩
theorem put_m {L : Lk} {a : AV} {b : Nat} (h : b < L.n) : (L.put a).m b = L.m b := by simp only [Lk.put]; rw [if_neg (by omega)]
theorem put_new {L : Lk} {a : AV} : (L.put a).m L.n = a := by simp [Lk.put]
section
variable {L L' : Lk} {H H' : AH} {B B' : List PB} {E : Nat → PV} {Ea : Env}
theorem Keep_put {a : AV} (h : Stay L.F H L.F H') : Keep L H (L.put a) H' := ⟨h, Nat.le_succ _, fun b hb => put_m hb⟩
theorem GsX.keep {F F' : Nat → Prop} {es : Nat} {l : List PV} {a : AV} {X : Nat} (h : GsX F H es l a X) (s : Stay F H F' H') (hX : H'.g X = H.g X) : GsX F' H' es l a X := by
 obtain ⟨cs, sp, h1, h2, h3, h4⟩ := h
 exact ⟨cs, sp, Nat.lt_of_lt_of_le h1 s.nx, by rw [hX]; exact h2, RcE.mono s _ _ h3, h4⟩
theorem BkR.keep {p : PB} {a : AV} (h : BkR L H p a) (k : Keep L H L' H') (ho : ∀ X, p.own = true → a.bk = some X → ¬ L.F X → H'.g X = H.g X ∧ ¬ L'.F X) : BkR L' H' p a := by
 cases p with
 | no => trivial
 | va l =>
  obtain ⟨X, cs, rfl, h2, h3, h4, h5⟩ := h
  obtain ⟨h6, h7⟩ := ho X rfl rfl h3
  exact ⟨X, cs, rfl, Nat.lt_of_lt_of_le h2 k.st.nx, h7, by rw [h6]; exact h4, RpL.mono k _ h5⟩
 | fv l => exact ⟨Rc.mono k.st _ h.1, h.2⟩
 | gs w es l =>
  obtain ⟨⟨h1, h2⟩ | ⟨X, h1, h2⟩, h3⟩ := h
  ·exact ⟨.inl ⟨Rc.mono k.st _ h1, h2⟩, h3⟩
  ·obtain ⟨h6, h7⟩ := ho X rfl h2.bk h1
   exact ⟨.inr ⟨X, h7, h2.keep k.st h6⟩, h3⟩
 | fz es l =>
  obtain ⟨⟨h1, h2⟩ | ⟨X, h1, h2⟩, h3⟩ := h
  ·exact ⟨.inl ⟨Rc.mono k.st _ h1, h2⟩, h3⟩
  ·exact ⟨.inr ⟨X, k.st.sF X h1, h2.keep k.st (k.st.g X h1)⟩, h3⟩
 | mi es =>
  obtain ⟨X, rfl, h2, h3, h4⟩ := h
  obtain ⟨h6, h7⟩ := ho X rfl rfl h3
  exact ⟨X, rfl, Nat.lt_of_lt_of_le h2 k.st.nx, h7, by rw [h6]; exact h4⟩
theorem al_wf {l : List AV} (h : ∀ X, H.nx ≤ X → H.g X = .no) : ∀ X, (H.al l).nx ≤ X → (H.al l).g X = .no := fun X hX => by
 simp only [AH.al] at hX ⊢
 rw [if_neg (by omega)]; exact h X (by omega)
theorem Ow_lt (h : HR L H B) {X : Nat} (hX : Ow L B X) : X < H.nx := by
 obtain ⟨b, p, h1, h2, h3, h4⟩ := hX
 have hb := h.bk b p h1
 cases p with
 | va l =>
  obtain ⟨X', cs, he, h5, _⟩ := hb
  rw [he] at h3; simp only [AV.bk, Option.some.injEq] at h3
  omega
 | gs w es l =>
  obtain ⟨⟨⟨⟨cs, h5, h6, _⟩, _⟩, _⟩ | ⟨X', h5, h6⟩, _⟩ := hb
  ·exact absurd (h6 X h3) h4
  ·rw [h6.bk] at h3; simp only [Option.some.injEq] at h3
   obtain ⟨_, _, h7, _⟩ := h6
   omega
 | mi es =>
  obtain ⟨X', he, h5, _⟩ := hb
  rw [he] at h3; simp only [AV.bk, Option.some.injEq] at h3
  omega
 | _ => simp [PB.own] at h2
theorem HR_ext (h : HR L H B) (hn : H.nx ≤ H'.nx) (hw : ∀ X, H'.nx ≤ X → H'.g X = .no) (hg : ∀ X, X < H.nx → (L.F X ∨ Ow L B X) → H'.g X = H.g X) : HR L H' B := by
 have s : Stay L.F H L.F H' := ⟨hn, fun _ h => h, fun X hX => hg X (h.fl X hX) (.inl hX)⟩
 refine ⟨h.n, fun X hX => Nat.lt_of_lt_of_le (h.fl X hX) hn, hw, fun b p hb => (h.bk b p hb).keep ⟨s, Nat.le_refl _, fun _ _ => rfl⟩ fun X hp hX hF => ?_, h.dj⟩
 have ho : Ow L B X := ⟨b, p, hb, hp, hX, hF⟩
 exact ⟨hg X (Ow_lt h ho) (.inr ho), hF⟩
theorem set_get {b b' : Nat} {p q : PB} (h : (B.set b q)[b']? = some p) (hq : q.own = false) (hp : p.own = true) : B[b']? = some p ∧ b' ≠ b := by
 rw [List.getElem?_set] at h
 split at h
 ·split at h
  ·simp only [Option.some.injEq] at h; subst h; rw [hq] at hp; cases hp
  ·cases h
 ·rename_i hne; exact ⟨h, fun e => hne e.symm⟩
theorem HR_kill (h : HR L H B) (b : Nat) : HR L H (B.set b .no) := by
 refine ⟨by rw [List.length_set]; exact h.n, h.fl, h.wf, fun c p hc => ?_, fun c c' p p' X hc hc' hp hp' => ?_⟩
 ·rw [List.getElem?_set] at hc
  split at hc
  ·split at hc
   ·simp only [Option.some.injEq] at hc; subst hc; trivial
   ·cases hc
  ·exact h.bk c p hc
 ·exact h.dj c c' p p' X (set_get hc rfl hp).1 (set_get hc' rfl hp').1 hp hp'
theorem Ow_kill {b X : Nat} (h : Ow L (B.set b .no) X) : Ow L B X := by
 obtain ⟨c, p, h1, h2, h3⟩ := h
 exact ⟨c, p, (set_get h1 rfl h2).1, h2, h3⟩
theorem Ow_kill_ne (h : HR L H B) {b X : Nat} {p : PB} (hp : B[b]? = some p) (hX : (L.m b).bk = some X) (ho : Ow L (B.set b .no) X) (hpo : p.own = true) : False := by
 obtain ⟨c, q, h1, h2, h3, h4⟩ := ho
 obtain ⟨h5, h6⟩ := set_get h1 rfl h2
 exact h6 (h.dj c b q p X h5 hp h2 hpo h3 hX h4)
theorem HR_add (h : HR L H B) {a : AV} {p : PB} (hb : BkR (L.put a) H p a) (hf : ∀ X, a.bk = some X → p.own = true → ¬ L.F X → ¬ Ow L B X) : HR (L.put a) H (B ++ [p]) := by
 have k : Keep L H (L.put a) H := Keep_put .refl
 have hn := h.n
 have get : ∀ b q, (B ++ [p])[b]? = some q → (b < L.n ∧ B[b]? = some q) ∨ (b = L.n ∧ q = p) := by
  intro b q hq
  by_cases hlt : b < B.length
  ·rw [List.getElem?_append_left hlt] at hq; exact .inl ⟨by omega, hq⟩
  ·rw [List.getElem?_append_right (by omega)] at hq
   have hl := (List.getElem?_eq_some_iff.1 hq).1
   simp only [List.length_cons, List.length_nil] at hl
   have : b - B.length = 0 := by omega
   rw [this] at hq
   simp only [List.getElem?_cons_zero, Option.some.injEq] at hq
   exact .inr ⟨by omega, hq.symm⟩
 refine ⟨by simp [Lk.put, hn], h.fl, h.wf, fun b q hq => ?_, fun b b' q q' X hq hq' ho ho' hX hX' hF => ?_⟩
 ·rcases get b q hq with ⟨h1, h2⟩ | ⟨rfl, rfl⟩
  ·rw [put_m h1]
   exact (h.bk b q h2).keep k fun X _ _ hF => ⟨rfl, hF⟩
  ·rw [put_new]; exact hb
 ·rcases get b q hq with ⟨h1, h2⟩ | ⟨rfl, rfl⟩ <;> rcases get b' q' hq' with ⟨h1', h2'⟩ | ⟨rfl, rfl⟩
  ·rw [put_m h1] at hX; rw [put_m h1'] at hX'
   exact h.dj b b' q q' X h2 h2' ho ho' hX hX' hF
  ·rw [put_m h1] at hX; rw [put_new] at hX'
   exact absurd ⟨b, q, h2, ho, hX, hF⟩ (hf X hX' ho' hF)
  ·rw [put_new] at hX; rw [put_m h1'] at hX'
   exact absurd ⟨b', q', h2', ho', hX', hF⟩ (hf X hX ho hF)
  ·rfl
theorem Ev_add (h : HR L H B) {B0 : List PB} {a : AV} {p : PB} (hl : B0.length = B.length) (hn : H.nx ≤ H'.nx) (hF : ∀ X, L.F X → H'.g X = H.g X) (hc : ∀ X, X < H.nx → ¬ L.F X → ¬ Ow L B X → H'.g X = H.g X)
  (hO : ∀ X, Ow L B0 X → Ow L B X) (hX : ∀ X, a.bk = some X → p.own = true → ¬ L.F X → Ow L B X ∨ H.nx ≤ X) : Ev L H B (L.put a) H' (B0 ++ [p]) := by
 have hLn := h.n
 refine ⟨Keep_put ⟨hn, fun _ h => h, hF⟩, hc, fun X h => .inl h, fun X ho => ?_⟩
 obtain ⟨b, q, h1, h2, h3, h4⟩ := ho
 by_cases hlt : b < B0.length
 ·rw [List.getElem?_append_left hlt] at h1
  rw [put_m (by omega)] at h3
  exact .inl (hO X ⟨b, q, h1, h2, h3, h4⟩)
 ·rw [List.getElem?_append_right (by omega)] at h1
  have hl' := (List.getElem?_eq_some_iff.1 h1).1
  simp only [List.length_cons, List.length_nil] at hl'
  have : b - B0.length = 0 := by omega
  rw [this] at h1
  simp only [List.getElem?_cons_zero, Option.some.injEq] at h1
  subst h1
  have hb : b = L.n := by omega
  subst hb
  rw [put_new] at h3
  exact hX X h3 h2 h4
structure Did (L : Lk) (H : AH) (B : List PB) (r : Option (AV × AH)) (v : PV) (B' : List PB) (T : List Nat) (c : AV) (H' : AH) (L' : Lk) : Prop where
 eq : r = some (c, H')
 ev : Ev L H B L' H' B'
 hr : HR L' H' B'
 rp : Rp L' H' v c
 un : ∀ X, X < H.nx → (∀ b ∈ T, b < L.n → (L.m b).bk ≠ some X) → H'.g X = H.g X
theorem did_new (h : HR L H B) {cells : List AV} {a : AV} {p : PB} {v : PV} {r : Option (AV × AH)} (hr : r = some (a, H.al cells)) (ha : a.bk = some H.nx) (hp : p.own = true)
  (hb : BkR (L.put a) (H.al cells) p a) (hv : Rp (L.put a) (H.al cells) v a) : Did L H B r v (B ++ [p]) [] a (H.al cells) (L.put a) := by
 have hF : ∀ X, L.F X → (H.al cells).g X = H.g X := fun X hX => al_old (h.fl X hX)
 have hne : HR L (H.al cells) B := HR_ext h (Nat.le_succ _) (al_wf h.wf) fun X hX _ => al_old hX
 refine ⟨hr, Ev_add h rfl (Nat.le_succ _) hF (fun X hX _ _ => al_old hX) (fun _ h => h) (fun X hX _ _ => ?_), HR_add hne hb (fun X hX _ _ ho => ?_), hv, fun X hX _ => al_old hX⟩
 ·rw [ha] at hX; simp only [Option.some.injEq] at hX; exact .inr (by omega)
 ·rw [ha] at hX; simp only [Option.some.injEq] at hX
  have := Ow_lt h ho
  omega
theorem did_va (h : HR L H B) {cells : List AV} {l : List PV} {r : Option (AV × AH)} (hr : r = some (.pt H.nx 0, H.al cells)) (hl : RpL L H l cells) : Did L H B r (.pt B.length 0) (B ++ [.va l]) [] (.pt H.nx 0) (H.al cells) (L.put (.pt H.nx 0)) := by
 have k : Keep L H (L.put (.pt H.nx 0)) (H.al cells) := Keep_put ⟨Nat.le_succ _, fun _ h => h, fun X hX => al_old (h.fl X hX)⟩
 refine did_new h hr rfl rfl ⟨H.nx, cells, rfl, Nat.lt_succ_self _, fun hF => by have := h.fl _ hF; omega, al_new, RpL.mono k _ hl⟩ ?_
 rw [← h.n]
 exact ⟨Nat.lt_succ_self _, H.nx, put_new, rfl⟩
def elemOf : List PV → PV
 | [v] => v
 | l => .ag l
def PV.sca : PV → Bool
 | .ag _ => false
 | .tu _ => false
 | .dd => false
 | v => v.cld
def PV.scaL (l : List PV) : Bool := l.all PV.sca
theorem sca_cld {v : PV} (h : v.sca = true) : v.cld = true := by cases v <;> simp_all [PV.sca, PV.cld]
theorem sca_cl {v : PV} (h : v.sca = true) : v.cl = some [v] := by cases v <;> simp_all [PV.sca, PV.cl]
theorem scaL_cldL : ∀ {l : List PV}, PV.scaL l = true → PV.cldL l = true
 | [], _ => rfl
 | v :: r, h => by
  simp only [PV.scaL, List.all_cons, Bool.and_eq_true] at h
  simp only [PV.cldL, Bool.and_eq_true]
  exact ⟨sca_cld h.1, scaL_cldL (by simpa [PV.scaL] using h.2)⟩
theorem Rc.one {F : Nat → Prop} {v : PV} {a : AV} (h : Rc F H v a) (hs : v.sca = true) : a.cl = some [a] := by
 cases v <;> simp only [PV.sca, PV.cld, Bool.false_eq_true] at hs
 case vs => obtain ⟨⟨cs, h1, _⟩, _⟩ := h; exact h1.cl
 case pe => obtain ⟨_, _, _, rfl, _⟩ := h; rfl
 case fn => obtain ⟨_, _, rfl, _⟩ := h; rfl
 case fc => obtain ⟨_, rfl, _⟩ := h; rfl
 all_goals (simp only [Rc] at h; subst h; rfl)
theorem elemOf_ok {F : Nat → Prop} {l : List PV} {cs : List AV} (h : RcL F H l cs) (hs : PV.scaL l = true) : ∃ a, Rc F H (elemOf l) a ∧ a.cl = some cs := by
 have other : ∃ a, Rc F H (.ag l) a ∧ a.cl = some cs := ⟨.ag cs, ⟨cs, rfl, h⟩, rfl⟩
 cases l with
 | nil => exact other
 | cons v r =>
  cases r with
  | cons u r => exact other
  | nil =>
   obtain ⟨a, l', h1, h2, h3⟩ := h
   simp only [RcL] at h3; subst h3; subst h1
   simp only [PV.scaL, List.all_cons, Bool.and_eq_true] at hs
   exact ⟨a, h2, Rc.one h2 hs.1⟩
def chunk : Nat → Nat → List PV → List PV
 | 0, _, _ => []
 | n + 1, es, l => elemOf (l.take es) :: chunk n es (l.drop es)
theorem scaL_take {l : List PV} {k : Nat} (h : PV.scaL l = true) : PV.scaL (l.take k) = true := List.all_eq_true.2 fun v hv => List.all_eq_true.1 h v (List.mem_of_mem_take hv)
theorem scaL_drop {l : List PV} {k : Nat} (h : PV.scaL l = true) : PV.scaL (l.drop k) = true := List.all_eq_true.2 fun v hv => List.all_eq_true.1 h v (List.mem_of_mem_drop hv)
theorem chunk_ok {F : Nat → Prop} {es : Nat} : ∀ {n : Nat} {l : List PV} {cs : List AV}, RcL F H l cs → PV.scaL l = true → l.length = n * es → RcE F H es (chunk n es l) cs
 | 0, l, cs, h, _, hl => by
  have : l = [] := List.eq_nil_of_length_eq_zero (by omega)
  subst this
  simp only [RcL] at h; subst h
  simp only [chunk, RcE]
 | n + 1, l, cs, h, hs, hl => by
  have hes : es ≤ l.length := by rw [hl, Nat.add_mul]; omega
  obtain ⟨a, h1, h2⟩ := elemOf_ok (h.take es) (scaL_take hs)
  refine ⟨a, cs.take es, cs.drop es, h1, h2, ?_, (List.take_append_drop _ _).symm, chunk_ok (h.drop es) (scaL_drop hs) ?_⟩
  ·rw [List.length_take, h.len]; omega
  ·rw [List.length_drop, hl, Nat.add_mul]; omega
theorem chunk_len {es : Nat} : ∀ {n : Nat} {l : List PV}, (chunk n es l).length = n
 | 0, _ => rfl
 | n + 1, l => by simp only [chunk, List.length_cons, chunk_len]
theorem rep_ok {F : Nat → Prop} {z : List PV} {cs : List AV} (h : RcL F H z cs) (hs : PV.scaL z = true) : ∀ n, RcE F H z.length (List.replicate n (elemOf z)) (List.replicate n cs).flatten
 | 0 => by simp [RcE]
 | n + 1 => by
  obtain ⟨a, h1, h2⟩ := elemOf_ok h hs
  simp only [List.replicate_succ, List.flatten_cons]
  exact ⟨a, cs, _, h1, h2, h.len, rfl, rep_ok h hs n⟩
theorem did_gs (h : HR L H B) {cs sp : List AV} {es c : Nat} {l : List PV} {r : Option (AV × AH)} (hr : r = some (.sl H.nx 0 l.length c, H.al (cs ++ sp))) (hl : RcE L.F H es l cs) (hc : l.length ≤ c) (hsp : sp.length = (c - l.length) * es) :
  Did L H B r (.gr B.length) (B ++ [.gs true es l]) [] (.sl H.nx 0 l.length c) (H.al (cs ++ sp)) (L.put (.sl H.nx 0 l.length c)) := by
 have s : Stay L.F H L.F (H.al (cs ++ sp)) := ⟨Nat.le_succ _, fun _ h => h, fun X hX => al_old (h.fl X hX)⟩
 refine did_new h hr rfl rfl ⟨.inr ⟨H.nx, fun hF => by have := h.fl _ hF; omega, cs, sp, Nat.lt_succ_self _, al_new, RcE.mono s _ _ hl, .inr ⟨c, hc, rfl, hsp⟩⟩, rfl⟩ ?_
 rw [← h.n]
 exact ⟨Nat.lt_succ_self _, put_new.symm, rfl⟩
theorem did_sg (h : HR L H B) {cells : List AV} {es : Nat} {l : List PV} {r : Option (AV × AH)} (hr : r = some (.sg H.nx 0 0 l.length es, H.al cells)) (hl : RcE L.F H es l cells) (hes : 0 < es) :
  Did L H B r (.gr B.length) (B ++ [.gs true es l]) [] (.sg H.nx 0 0 l.length es) (H.al cells) (L.put (.sg H.nx 0 0 l.length es)) := by
 have s : Stay L.F H L.F (H.al cells) := ⟨Nat.le_succ _, fun _ h => h, fun X hX => al_old (h.fl X hX)⟩
 refine did_new h hr rfl rfl ⟨.inr ⟨H.nx, fun hF => by have := h.fl _ hF; omega, cells, [], Nat.lt_succ_self _, by rw [List.append_nil]; exact al_new, RcE.mono s _ _ hl, .inl ⟨rfl, hes⟩⟩, rfl⟩ ?_
 rw [← h.n]
 exact ⟨Nat.lt_succ_self _, put_new.symm, rfl⟩
theorem did_em (h : HR L H B) {r : Option (AV × AH)} (hr : r = some (.sl H.nx 0 0 0, H.al [])) : Did L H B r (.vs 2 0 []) B [] (.sl H.nx 0 0 0) (H.al []) ⟨L.n, L.m, fun X => L.F X ∨ X = H.nx⟩ := by
 have s : Stay L.F H (fun X => L.F X ∨ X = H.nx) (H.al []) := ⟨Nat.le_succ _, fun _ h => .inl h, fun X hX => al_old (h.fl X hX)⟩
 have k : Keep L H ⟨L.n, L.m, fun X => L.F X ∨ X = H.nx⟩ (H.al []) := ⟨s, Nat.le_refl _, fun _ _ => rfl⟩
 refine ⟨hr, ⟨k, fun X hX _ _ => al_old hX, fun X hX => hX.imp id fun h => .inr (by omega), fun X ⟨b, p, h1, h2, h3, h4⟩ => .inl ⟨b, p, h1, h2, h3, fun hF => h4 (.inl hF)⟩⟩, ⟨h.n, fun X hX => ?_, al_wf h.wf, fun b p hb => ?_, fun b b' p p' X hb hb' hp hp' hX hX' hF => h.dj b b' p p' X hb hb' hp hp' hX hX' fun hF' => hF (.inl hF')⟩, ?_, fun X hX _ => al_old hX⟩
 ·rcases hX with hX | rfl
  ·exact Nat.lt_succ_of_lt (h.fl X hX)
  ·exact Nat.lt_succ_self _
 ·refine (h.bk b p hb).keep k fun X hp hX hF => ?_
  have := Ow_lt h ⟨b, p, hb, hp, hX, hF⟩
  exact ⟨al_old this, fun h' => h'.elim hF fun e => by omega⟩
 ·refine ⟨⟨[], .sl (Nat.lt_succ_self _) (fun i v hi => by simp at hi) (by simp) (by simp) (Nat.le_refl _), fun b hb => ?_, rfl⟩, fun _ b o q n e he => (by cases he), fun _ => .inr ⟨_, _, rfl⟩⟩
  simp only [AV.bk, Option.some.injEq] at hb
  exact .inr hb.symm
end
end Go.AX
end
section
namespace Go.AX
open Go
section
variable {L L' : Lk} {H H' : AH} {B B' : List PB} {E : Nat → PV} {Ea : Env}
theorem splice_get {l m : List AV} {o : Nat} (h : o + m.length ≤ l.length) (j : Nat) : (splice l o m)[j]? = if o ≤ j ∧ j < o + m.length then m[j - o]? else l[j]? := by
 unfold splice
 by_cases h1 : j < o
 ·rw [if_neg (by omega), List.getElem?_append_left (by simp; omega), List.getElem?_take_of_lt h1]
 ·rw [List.getElem?_append_right (by simp; omega)]
  have : (l.take o).length = o := by simp; omega
  rw [this]
  by_cases h2 : j < o + m.length
  ·rw [if_pos (by omega), List.getElem?_append_left (by omega)]
  ·rw [if_neg (by omega), List.getElem?_append_right (by omega), List.getElem?_drop]
   congr 1; omega
theorem splice_app {cs sp m : List AV} {o : Nat} (h : o + m.length ≤ cs.length) : splice (cs ++ sp) o m = splice cs o m ++ sp := by
 apply List.ext_getElem?
 intro j
 rw [splice_get (by simp; omega)]
 by_cases hj : j < cs.length
 ·rw [List.getElem?_append_left hj, List.getElem?_append_left (by rw [splice_length h]; exact hj), splice_get h]
 ·rw [if_neg (by omega), List.getElem?_append_right (by omega), List.getElem?_append_right (by rw [splice_length h]; omega), splice_length h]
theorem splice_in {cs m : List AV} {p es o : Nat} (h : p + es ≤ cs.length) (ho : o + m.length ≤ es) : splice cs (p + o) m = splice cs p (splice ((cs.drop p).take es) o m) := by
 have hl : ((cs.drop p).take es).length = es := by simp; omega
 have hs : (splice ((cs.drop p).take es) o m).length = es := by rw [splice_length (by omega), hl]
 apply List.ext_getElem?
 intro j
 rw [splice_get (by omega), splice_get (by omega), hs]
 by_cases h1 : p ≤ j ∧ j < p + es
 ·rw [if_pos h1, splice_get (by omega)]
  by_cases h2 : p + o ≤ j ∧ j < p + o + m.length
  ·rw [if_pos h2, if_pos (by omega)]
   congr 1; omega
  ·rw [if_neg h2, if_neg (by omega), List.getElem?_take_of_lt (by omega), List.getElem?_drop]
   congr 1; omega
 ·rw [if_neg h1, if_neg (by omega)]
theorem splice_cons {c cs m : List AV} {o : Nat} : splice (c ++ cs) (c.length + o) m = c ++ splice cs o m := by
 unfold splice
 rw [List.take_append, List.take_of_length_le (by omega), Nat.add_sub_cancel_left, Nat.add_assoc, List.drop_append, List.drop_of_length_le (by omega), Nat.add_sub_cancel_left, List.nil_append, List.append_assoc]
theorem RcE.set {F : Nat → Prop} {es : Nat} {e : PV} {a : AV} {c' : List AV} (he : Rc F H e a) (hc : a.cl = some c') (hl : c'.length = es) : ∀ {l : List PV} {cs : List AV} {i : Nat}, RcE F H es l cs → i < l.length → RcE F H es (l.set i e) (splice cs (i * es) c')
 | v :: r, _, 0, ⟨a0, c, cs', h1, h2, h3, h4, h5⟩, _ => by
  subst h4
  rw [Nat.zero_mul]
  refine ⟨a, c', cs', he, hc, hl, ?_, h5⟩
  unfold splice
  rw [List.take_zero, List.nil_append, Nat.zero_add, List.drop_left' (by omega)]
 | v :: r, _, i + 1, ⟨a0, c, cs', h1, h2, h3, h4, h5⟩, hi => by
  subst h4
  refine ⟨a0, c, _, h1, h2, h3, ?_, RcE.set he hc hl h5 (by simpa using hi)⟩
  rw [Nat.add_mul, Nat.one_mul, Nat.add_comm, ← h3, splice_cons]
theorem did_up (h : HR L H B) {b X : Nat} {p p' : PB} {cs' : List AV} {r : Option (AV × AH)} (hb : B[b]? = some p) (hp : p.own = true) (hp' : p'.own = true) (hX : (L.m b).bk = some X) (hF : ¬ L.F X)
  (hr : r = some (.tu [], H.up X cs')) (hk : BkR L (H.up X cs') p' (L.m b)) : Did L H B r (.tu []) (B.set b p') [b] (.tu []) (H.up X cs') L := by
 have hbl : b < B.length := (List.getElem?_eq_some_iff.1 hb).1
 have hFX : ∀ Y, L.F Y → (H.up X cs').g Y = H.g Y := fun Y hY => up_other (fun e => hF (e ▸ hY))
 have s : Stay L.F H L.F (H.up X cs') := ⟨Nat.le_refl _, fun _ h => h, hFX⟩
 have hO : Ow L B X := ⟨b, p, hb, hp, hX, hF⟩
 have get : ∀ c q, (B.set b p')[c]? = some q → (c = b ∧ q = p') ∨ (c ≠ b ∧ B[c]? = some q) := by
  intro c q hq
  rw [List.getElem?_set] at hq
  split at hq
  ·rename_i he
   try rw [if_pos (by omega)] at hq
   simp only [Option.some.injEq] at hq
   exact .inl ⟨he.symm, hq.symm⟩
  ·rename_i he; exact .inr ⟨fun e => he e.symm, hq⟩
 refine ⟨hr, ⟨⟨s, Nat.le_refl _, fun _ _ => rfl⟩, fun Y hY hFY hOY => up_other (fun e => hOY (e ▸ hO)), fun Y hY => .inl hY, fun Y ⟨c, q, h1, h2, h3, h4⟩ => ?_⟩, ⟨by rw [List.length_set]; exact h.n, h.fl, fun Y hY => by rw [up_other (fun e => by have := Ow_lt h hO; simp only [AH.up] at hY; omega)]; exact h.wf Y hY, fun c q hq => ?_, fun c c' q q' Y hq hq' ho ho' hY hY' hFY => ?_⟩, ⟨[], rfl, rfl⟩, fun Y hY hT => up_other fun e => hT b (by simp) (by have := h.n; omega) (by rw [hX, e])⟩
 ·rcases get c q h1 with ⟨rfl, rfl⟩ | ⟨_, h1⟩
  ·exact .inl ⟨c, p, hb, hp, h3, h4⟩
  ·exact .inl ⟨c, q, h1, h2, h3, h4⟩
 ·rcases get c q hq with ⟨rfl, rfl⟩ | ⟨hne, hq⟩
  ·exact hk
  ·refine (h.bk c q hq).keep ⟨s, Nat.le_refl _, fun _ _ => rfl⟩ fun Y ho hY hFY => ⟨up_other fun e => ?_, hFY⟩
   subst e
   exact hne (h.dj c b q p Y hq hb ho hp hY hX hFY)
 ·rcases get c q hq with ⟨e1, e2⟩ | ⟨hne, hq2⟩ <;> rcases get c' q' hq' with ⟨e3, e4⟩ | ⟨hne', hq2'⟩
  ·rw [e1, e3]
  ·rw [e1] at hY ⊢
   exact h.dj b c' p q' Y hb hq2' hp ho' hY hY' hFY
  ·rw [e3] at hY' ⊢
   exact h.dj c b q p Y hq2 hb ho hp hY hY' hFY
  ·exact h.dj c c' q q' Y hq2 hq2' ho ho' hY hY' hFY
def psetE (l : List PV) (i o n es : Nat) (m : List PV) (x : PV) : Option (List PV) :=
 if o = 0 ∧ n = es then (if x.cld = true ∧ i < l.length then some (l.set i x) else none)
 else (l[i]?).bind fun e => e.cl.bind fun c => if c.length = es ∧ PV.scaL (c.take o ++ (m ++ c.drop (o + n))) = true then some (l.set i (elemOf (c.take o ++ (m ++ c.drop (o + n))))) else none
def psto (n : Nat) (B : List PB) (a x : PV) : Option (PV × List PB) :=
 match a with
 | .pt b o => match B[b]? with
  | some (.va l) => x.cl.bind fun m => if m.length = n ∧ o + n ≤ l.length then some (.tu [], B.set b (.va (l.take o ++ (m ++ l.drop (o + n))))) else none
  | _ => none
 | .pg es b i o => match B[b]? with
  | some (.gs true es' l) => x.cl.bind fun m => if m.length = n ∧ o + n ≤ es ∧ es' = es then (psetE l i o n es m x).map fun l' => (.tu [], B.set b (.gs true es l')) else none
  | _ => none
 | _ => none
def ptch : PV → List Nat
 | .pt b _ => [b]
 | .pg _ b _ _ => [b]
 | .gr b => [b]
 | _ => []
theorem psto_ok (h : HR L H B) {n : Nat} {a x v : PV} {c d : AV} (ha : Rp L H a c) (hx : Rp L H x d) (hv : psto n B a x = some (v, B')) : ∃ e H' L', Did L H B (vsto n H c d) v B' (ptch a) e H' L' := by
 unfold psto at hv
 split at hv
 ·rename_i b o
  obtain ⟨h0, X, hm, rfl⟩ := ha
  split at hv
  ·rename_i l hb
   simp only [Option.bind_eq_some_iff] at hv
   obtain ⟨m, hm', hv⟩ := hv
   split at hv
   ·rename_i hcnd
    simp only [Option.some.injEq, Prod.mk.injEq] at hv
    obtain ⟨rfl, rfl⟩ := hv
    obtain ⟨mm, h1, h2⟩ := hx.cl hm'
    obtain ⟨X', cs, h3, h4, h5, h6, h7⟩ := h.bk b _ hb
    rw [hm] at h3
    simp only [AV.pt.injEq, and_true] at h3; subst h3
    have hX : (L.m b).bk = some X := by rw [hm]; rfl
    have hlen := h2.len
    have hlen2 := h7.len
    refine ⟨_, _, _, did_up h hb rfl rfl hX h5 (cs' := splice cs o mm) ?_ ?_⟩
    ·simp only [vsto, h1, Option.bind_some]
     rw [if_pos (by omega), wr_rw' h6 (by omega)]; rfl
    ·have k : Keep L H L (H.up X (splice cs o mm)) := ⟨⟨Nat.le_refl _, fun _ h => h, fun Y hY => up_other (fun e => h5 (e ▸ hY))⟩, Nat.le_refl _, fun _ _ => rfl⟩
     have hsp : splice cs o mm = cs.take o ++ (mm ++ cs.drop (o + n)) := by unfold splice; rw [hlen, hcnd.1]
     refine ⟨X, _, hm, h4, h5, up_self, ?_⟩
     generalize splice cs o mm = S at *
     subst hsp
     exact (RpL.mono k _ h7).take o |>.app ((RpL.mono k _ h2).app ((RpL.mono k _ h7).drop _))
   ·cases hv
  ·cases hv
 ·rename_i es b i o
  obtain ⟨h0, X, hX, rfl⟩ := ha
  split at hv
  ·rename_i es' l hb
   simp only [Option.bind_eq_some_iff] at hv
   obtain ⟨m, hm', hv⟩ := hv
   split at hv
   ·rename_i hcnd
    obtain ⟨hmn, hon, rfl⟩ := hcnd
    obtain ⟨l', hl', hv⟩ := Option.map_eq_some_iff.1 hv
    simp only [Prod.mk.injEq] at hv
    obtain ⟨rfl, rfl⟩ := hv
    obtain ⟨mm, h1, h2⟩ := hx.cl hm'
    have hlen := h2.len
    have key : i < l.length ∧ ∀ cs, RcE L.F H es' l cs → ∃ e a', l' = l.set i e ∧ Rc L.F H e a' ∧ a'.cl = some (splice ((cs.drop (i * es')).take es') o mm) := by
     unfold psetE at hl'
     split at hl'
     ·rename_i h00
      split at hl'
      ·rename_i hcl
       simp only [Option.some.injEq] at hl'; subst hl'
       refine ⟨hcl.2, fun cs hcs => ⟨x, d, rfl, Rp.c x hcl.1 hx, ?_⟩⟩
       obtain ⟨a0, _, _, r3, r4⟩ := hcs.elt (List.getElem?_eq_getElem hcl.2)
       rw [h1, h00.1, splice0 (by omega)]
      ·cases hl'
     ·simp only [Option.bind_eq_some_iff] at hl'
      obtain ⟨e0, he0, c0, hc0, hl'⟩ := hl'
      split at hl'
      ·rename_i hsc
       simp only [Option.some.injEq] at hl'; subst hl'
       have hi := (List.getElem?_eq_some_iff.1 he0).1
       refine ⟨hi, fun cs hcs => ?_⟩
       obtain ⟨a0, r1, r2, r3, r4⟩ := hcs.elt he0
       obtain ⟨cc, hcc, hr⟩ := r1.cl hc0
       rw [r2] at hcc
       simp only [Option.some.injEq] at hcc; subst hcc
       have hmc : RcL L.F H m mm := by
        refine RpL.c m ?_ h2
        have := List.all_eq_true.1 hsc.2
        have hall : PV.scaL m = true := List.all_eq_true.2 fun v hv => this v (by simp [hv])
        exact scaL_cldL hall
       have := (hr.take o).app (hmc.app (hr.drop (o + n)))
       obtain ⟨a', g1, g2⟩ := elemOf_ok this hsc.2
       refine ⟨_, a', rfl, g1, ?_⟩
       rw [g2]
       unfold splice
       rw [hlen, hmn]
      ·cases hl'
    obtain ⟨hi, key⟩ := key
    obtain ⟨⟨h3, h4⟩ | ⟨X', h3, h4⟩, hone⟩ := h.bk b _ hb
    ·rw [h4 rfl] at hi; simp at hi
    ·have hX' := h4.bk
     rw [hX] at hX'
     simp only [Option.some.injEq] at hX'; subst hX'
     obtain ⟨cs, sp, g1, g2, g3, g4⟩ := h4
     obtain ⟨e, a', rfl, k1, k2⟩ := key cs g3
     have hcl := g3.len
     have hmul : i * es' + es' ≤ cs.length := by
      have := Nat.mul_le_mul_right es' (show i + 1 ≤ l.length by omega)
      rw [Nat.add_mul, Nat.one_mul] at this; omega
     have hel : ((cs.drop (i * es')).take es').length = es' := by simp; omega
     have k3 : (splice ((cs.drop (i * es')).take es') o mm).length = es' := by rw [splice_length (by omega), hel]
     have hst : Stay L.F H L.F (H.up X (splice cs (i * es' + o) mm ++ sp)) := ⟨Nat.le_refl _, fun _ h => h, fun Y hY => up_other (fun e => h3 (e ▸ hY))⟩
     refine ⟨_, _, _, did_up h hb rfl rfl hX h3 (cs' := splice cs (i * es' + o) mm ++ sp) ?_ ⟨.inr ⟨X, h3, splice cs (i * es' + o) mm, sp, g1, up_self, ?_, ?_⟩, hone⟩⟩
     ·simp only [vsto, h1, Option.bind_some]
      rw [if_pos (by omega), wr_rw' g2 (by simp; omega), splice_app (by omega)]; rfl
     ·have hsp := splice_in (m := mm) hmul (show o + mm.length ≤ es' by omega)
      refine RcE.mono hst _ _ ?_
      rw [hsp]
      exact RcE.set k1 k2 k3 g3 hi
     ·rw [List.length_set]; exact g4
   ·cases hv
  ·cases hv
 ·cases hv
end
end Go.AX
end
section
namespace Go.AX
open Go
section
variable {L L' : Lk} {H H' : AH} {B B' : List PB} {E : Nat → PV} {Ea : Env}
def pcont (es : Nat) (B : List PB) : PV → Option (List PV)
 | .sn => some []
 | .vs w es' l => if es' = es then some l else if 2 ≤ w then (match l with | [] => some [] | _ => none) else none
 | .gr b => match B[b]? with
  | some (.gs _ es' l) => if es' = es then some l else none
  | some (.fz es' l) => if es' = es then some l else none
  | _ => none
 | .gp es' b lo n => (pblk B b).bind fun p => if es' = es ∧ p.1 = es ∧ lo + n ≤ p.2.length then some ((p.2.drop lo).take n) else none
 | _ => none
theorem Rc_vs_sc {F : Nat → Prop} {w es : Nat} {l : List PV} {a : AV} (h : Rc F H (.vs w es l) a) : ∃ cs, H.sc es a = some (l.length, cs) ∧ RcE F H es l cs := by
 obtain ⟨⟨cs, h1, _, h2⟩, _⟩ := h
 exact ⟨cs, h1.sc, h2⟩
theorem GsX.sc {F : Nat → Prop} {es : Nat} {l : List PV} {a : AV} {X : Nat} (h : GsX F H es l a X) : ∃ cs, H.sc es a = some (l.length, cs) ∧ RcE F H es l cs := by
 obtain ⟨cs, h1, h2⟩ := h.sl
 exact ⟨cs, h1.sc, h2⟩
theorem pcont_ok (h : HR L H B) {es : Nat} {v : PV} {a : AV} {l : List PV} (hv : Rp L H v a) (hl : pcont es B v = some l) : ∃ cs, H.sc es a = some (l.length, cs) ∧ RcE L.F H es l cs := by
 unfold pcont at hl
 split at hl
 ·simp only [Option.some.injEq] at hl; subst hl
  simp only [Rp] at hv; subst hv
  exact ⟨[], rfl, rfl⟩
 ·split at hl
  ·rename_i he; subst he
   simp only [Option.some.injEq] at hl; subst hl
   exact Rc_vs_sc hv
  ·split at hl
   ·rename_i hw
    split at hl
    ·simp only [Option.some.injEq] at hl; subst hl
     obtain ⟨⟨cs, h1, _, h2⟩, _, h3⟩ := hv
     simp only [RcE] at h2; subst h2
     refine ⟨[], ?_, rfl⟩
     rcases h3 hw with rfl | ⟨X, o, rfl⟩
     ·rfl
     ·simp only [List.length_nil] at h1 ⊢
      cases h1 with
      | sl g1 g2 g3 g4 g5 =>
       simp only [AH.sc, Nat.zero_mul, AH.rd]
       rw [if_pos (by simp at g3; omega)]
       simp
    ·cases hl
   ·cases hl
 ·obtain ⟨h0, rfl, _⟩ := hv
  split at hl
  ·rename_i he
   split at hl
   ·rename_i hes; subst hes
    simp only [Option.some.injEq] at hl; subst hl
    obtain ⟨⟨h1, _⟩ | ⟨X, _, h1⟩, _⟩ := h.bk _ _ he
    ·exact Rc_vs_sc h1
    ·exact h1.sc
   ·cases hl
  ·rename_i he
   split at hl
   ·rename_i hes; subst hes
    simp only [Option.some.injEq] at hl; subst hl
    obtain ⟨⟨h1, _⟩ | ⟨X, _, h1⟩, _⟩ := h.bk _ _ he
    ·exact Rc_vs_sc h1
    ·exact h1.sc
   ·cases hl
  ·cases hl
 ·rename_i es' b lo n
  obtain ⟨h0, hv⟩ := hv
  simp only [Option.bind_eq_some_iff] at hl
  obtain ⟨⟨es2, l2⟩, hb, hl⟩ := hl
  split at hl
  ·rename_i hcnd
   obtain ⟨rfl, h2, hle⟩ := hcnd
   simp only at h2; subst h2
   simp only [Option.some.injEq] at hl; subst hl
   simp only at hle
   have hlen : ((l2.drop lo).take n).length = n := by simp; omega
   rcases hv with ⟨rfl, hv⟩ | ⟨X, hX, hv⟩
   ·have : (l2.drop lo).take 0 = [] := by simp
    rw [this]
    exact Rc_vs_sc hv
   ·rcases pblk_ok h hb with ⟨hr, hnil⟩ | ⟨X', h1⟩
    ·subst hnil
     simp only [List.length_nil] at hle
     obtain rfl : n = 0 := by omega
     obtain rfl : lo = 0 := by omega
     have he : ((([] : List PV).drop 0).take 0) = [] := rfl
     rw [he]
     refine ⟨[], ?_, rfl⟩
     rcases hv with ⟨o, c, rfl, h3, h4⟩ | ⟨o, q, n0, rfl, h3, h4, h5⟩
     ·have : o = 0 := by omega
      subst this
      simp only [AH.sc, Nat.zero_mul, AH.rd, List.length_nil]
      rw [if_pos (by omega)]; simp
     ·obtain ⟨⟨cs, g1, g2, g3⟩, g4, g5⟩ := hr
      rcases g5 (Nat.le_refl _) with g5 | ⟨Y, o, g5⟩ <;> (rw [g5] at h5; cases h5)
    ·have hX' := h1.bk
     rw [hX] at hX'
     simp only [Option.some.injEq] at hX'; subst hX'
     obtain ⟨cs, sp, g1, g2, g3, g4⟩ := h1
     have hcl := g3.len
     have hmul : lo * es2 + n * es2 ≤ cs.length := by rw [hcl, ← Nat.add_mul]; exact Nat.mul_le_mul_right _ hle
     have hrd : H.rd X (lo * es2) (n * es2) = some ((cs.drop (lo * es2)).take (n * es2)) := by
      have hR : Rd H X 0 cs := ⟨fun i v hi => by rw [g2, Nat.zero_add]; simp only [Blk.cells]; rw [List.getElem?_append_left (List.getElem?_eq_some_iff.1 hi).1]; exact hi, by rw [g2]; simp [Blk.cells]⟩
      have := hR.sub (lo * es2) (n * es2) hmul
      rwa [Nat.zero_add] at this
     refine ⟨_, ?_, (g3.drop lo).take n⟩
     rw [hlen]
     rcases hv with ⟨o, c, rfl, h3, h4⟩ | ⟨o, q, n0, rfl, h3, h4, _⟩
     ·rcases h4 with ⟨rfl, h4⟩ | h4
      ·simp only [AH.sc, Nat.zero_mul, AH.rd]
       rw [if_pos (by rw [g2]; simp [Blk.cells]; omega)]
       simp
      ·subst h4
       simp only [AH.sc, hrd, Option.map_some]
     ·subst h4
      simp only [AH.sc]
      rw [if_pos ⟨trivial, h3, by rw [g2]; rfl⟩, hrd]; rfl
  ·cases hl
 ·cases hl
def pbase (es : Nat) (B : List PB) : PV → Option (Bool × List PV × Option Nat)
 | .sn => some (true, [], none)
 | .vs w es' l => if 2 ≤ w then (if es' = es then some (l.isEmpty, l, none) else match l with | [] => some (true, [], none) | _ => none) else none
 | .gr b => match B[b]? with
  | some (.gs w es' l) => if es' = es then some (w, l, some b) else none
  | _ => none
 | _ => none
def pkill (B : List PB) : Option Nat → List PB
 | none => B
 | some b => B.set b .no
def papp (es bytes : Nat) (B : List PB) (s : PV) (m : List PV) : Option (PV × List PB) :=
 (pbase es B s).bind fun p => if (p.2.1.length + m.length) * bytes ≤ 140737488355328 ∧ 0 < es then some (.gr B.length, pkill B p.2.2 ++ [.gs (p.1 || !m.isEmpty) es (p.2.1 ++ m)]) else none
theorem Rc_emp {F : Nat → Prop} {es es' : Nat} {a : AV} (h : Rc F H (.vs 2 es []) a) : Rc F H (.vs 2 es' []) a := by
 obtain ⟨⟨cs, h1, h2, h3⟩, h4, h5⟩ := h
 simp only [RcE] at h3; subst h3
 refine ⟨⟨[], ?_, h2, rfl⟩, h4, h5⟩
 rcases h5 (Nat.le_refl _) with rfl | ⟨X, o, rfl⟩
 ·exact .sn
 ·cases h1 with
  | sl g1 g2 g3 g4 g5 => exact .sl g1 (fun i v hi => by simp at hi) (by simpa using g3) (by simp) g5
theorem did_more (h : HR L H B) {a : AV} {p : PB} {k : Option Nat} {T : List Nat} {r : Option (AV × AH)} (hr : r = some (a, H')) (hn : H.nx ≤ H'.nx) (hw : ∀ X, H'.nx ≤ X → H'.g X = .no) (hg : ∀ X, X < H.nx → (∀ b ∈ T, b < L.n → (L.m b).bk ≠ some X) → H'.g X = H.g X)
  (hT : ∀ b ∈ T, b < L.n → k = some b ∧ ∀ X, (L.m b).bk = some X → ¬ L.F X ∧ Ow L B X) (hb : BkR (L.put a) H' p a) (ha : a.cl = some [a]) (hX : ∀ X, a.bk = some X → ¬ L.F X → (Ow L B X ∧ ¬ Ow L (pkill B k) X) ∨ H.nx ≤ X) (ho : ∀ X b, k = some b → (L.m b).bk = some X → b ∈ T → ¬ Ow L (pkill B k) X) :
  Did L H B r (.gr B.length) (pkill B k ++ [p]) T a H' (L.put a) := by
 have hF : ∀ X, L.F X → H'.g X = H.g X := fun X hX => hg X (h.fl X hX) fun b hb hbn e => (hT b hb hbn).2 X e |>.1 hX
 have hk : HR L H (pkill B k) := by
  cases k with
  | none => exact h
  | some b => exact HR_kill h b
 have hO : ∀ X, Ow L (pkill B k) X → Ow L B X := by
  cases k with
  | none => exact fun _ h => h
  | some b => exact fun X hX => Ow_kill hX
 have hlen : (pkill B k).length = B.length := by
  cases k with
  | none => rfl
  | some b => exact List.length_set
 have hk' : HR L H' (pkill B k) := HR_ext hk hn hw fun X hlt hX => by
  rcases hX with hX | hX
  ·exact hF X hX
  ·refine hg X hlt fun b hb hbn e => ?_
   obtain ⟨h1, h2⟩ := hT b hb hbn
   exact ho X b h1 e hb hX
 refine ⟨hr, Ev_add h hlen hn hF (fun X hlt hFX hOX => hg X hlt fun b hb hbn e => hOX ((hT b hb hbn).2 X e).2) hO (fun X hXa _ hFX => ?_), HR_add hk' hb (fun X hXa _ hFX hOX => ?_), ?_, hg⟩
 ·rcases hX X hXa hFX with h1 | h1
  ·exact .inl h1.1
  ·exact .inr h1
 ·rcases hX X hXa hFX with h1 | h1
  ·exact h1.2 hOX
  ·have := Ow_lt h (hO X hOX); omega
 ·rw [← h.n]
  exact ⟨Nat.lt_succ_self _, put_new.symm, ha⟩
theorem papp_ok (h : HR L H B) {es bytes : Nat} {s v : PV} {a : AV} {m : List PV} {cs : List AV} (hs : Rp L H s a) (hm : RcE L.F H es m cs) (hv : papp es bytes B s m = some (v, B')) :
  ∃ e H' L', Did L H B (vapp es bytes H a m.length cs) v B' (ptch s) e H' L' := by
 simp only [papp, Option.bind_eq_some_iff] at hv
 obtain ⟨⟨w, l, k⟩, hb, hv⟩ := hv
 split at hv
 ·rename_i hcnd
  obtain ⟨hle, hes⟩ := hcnd
  simp only at hle hv
  simp only [Option.some.injEq, Prod.mk.injEq] at hv
  obtain ⟨rfl, rfl⟩ := hv
  have hcl := hm.len
  have copy : ∀ {T : List Nat}, Rc L.F H (.vs 2 es l) a → (w = true → l = []) → (∀ b ∈ T, b < L.n → k = some b ∧ ∀ X, (L.m b).bk = some X → ¬ L.F X ∧ Ow L B X) → (∀ X b, k = some b → (L.m b).bk = some X → b ∈ T → ¬ Ow L (pkill B k) X) →
    ∃ e H' L', Did L H B (vapp es bytes H a m.length cs) (.gr B.length) (pkill B k ++ [.gs (w || !m.isEmpty) es (l ++ m)]) T e H' L' := by
   intro T hr hw hT hTo
   obtain ⟨⟨ls, h1, h2, h3⟩, h4, h5⟩ := hr
   have hone : a.cl = some [a] := h1.cl
   by_cases hm0 : m.length = 0
   ·have hmn : m = [] := List.eq_nil_of_length_eq_zero hm0
    subst hmn
    have hvapp : vapp es bytes H a 0 cs = some (a, H) := by
     rcases h5 (Nat.le_refl _) with rfl | ⟨X, o, rfl⟩
     ·simp [vapp]
     ·simp [vapp]
    refine ⟨_, _, _, did_more h hvapp (Nat.le_refl _) h.wf (fun _ _ _ => rfl) hT ⟨.inl ⟨?_, ?_⟩, hone⟩ hone (fun X hX hF => absurd (h2 X hX) hF) hTo⟩
    ·rw [List.append_nil]
     exact ⟨⟨ls, h1, h2, h3⟩, h4, h5⟩
    ·rw [List.append_nil]
     simpa using hw
   ·have hmne : m.isEmpty = false := by cases m <;> simp_all
    have hs' : Stay L.F H L.F (H.al (ls ++ cs)) := ⟨Nat.le_succ _, fun _ h => h, fun X hX => al_old (h.fl X hX)⟩
    have hvapp : vapp es bytes H a m.length cs = some (.sg H.nx 0 0 (l ++ m).length es, H.al (ls ++ cs)) := by
     have hlen := h3.len
     rcases h5 (Nat.le_refl _) with rfl | ⟨X, o, rfl⟩
     ·cases hlz : l with
      | cons _ _ => rw [hlz] at h1; simp at h1; cases h1
      | nil =>
       rw [hlz] at h3 hle
       simp only [RcE] at h3; subst h3
       simp only [List.length_nil, Nat.zero_add] at hle
       simp only [vapp, if_neg hm0, if_pos hle, List.nil_append]
     ·have hrd : H.rd X o (l.length * es) = some ls := by
       generalize l.length = n at h1
       cases h1 with
       | sl g1 g2 g3 g4 g5 => exact rd_at g2 g3 g4
      simp only [vapp, if_neg hm0]
      rw [if_neg (by omega), if_pos hle, hrd]
      simp [List.length_append]
    refine ⟨_, _, _, did_more h hvapp (Nat.le_succ _) (al_wf h.wf) (fun X hX _ => al_old hX) hT ⟨.inr ⟨H.nx, fun hF => by have := h.fl _ hF; omega, ls ++ cs, [], Nat.lt_succ_self _, by rw [List.append_nil]; exact al_new, RcE.mono hs' _ _ (h3.app hm), .inl ⟨rfl, hes⟩⟩, rfl⟩ rfl (fun X hX hF => ?_) hTo⟩
    simp only [AV.bk, Option.some.injEq] at hX
    exact .inr (by omega)
  unfold pbase at hb
  split at hb
  ·simp only [Option.some.injEq, Prod.mk.injEq] at hb
   obtain ⟨rfl, rfl, rfl⟩ := hb
   simp only [Rp] at hs; subst hs
   exact copy Rc_snil (fun _ => rfl) (fun b hb => by simp [ptch] at hb) (fun X b hk => by cases hk)
  ·rename_i w' es' l'
   split at hb
   ·rename_i hw2
    have hs2 : Rc L.F H (.vs 2 es' l') a := ⟨hs.1, fun _ => hs.2.1 (by omega), fun _ => hs.2.2 hw2⟩
    split at hb
    ·rename_i he; subst he
     simp only [Option.some.injEq, Prod.mk.injEq] at hb
     obtain ⟨rfl, rfl, rfl⟩ := hb
     exact copy hs2 (fun hw => by simpa using hw) (fun b hb => by simp [ptch] at hb) (fun X b hk => by cases hk)
    ·split at hb
     ·simp only [Option.some.injEq, Prod.mk.injEq] at hb
      obtain ⟨rfl, rfl, rfl⟩ := hb
      exact copy (Rc_emp hs2) (fun _ => rfl) (fun b hb => by simp [ptch] at hb) (fun X b hk => by cases hk)
     ·cases hb
   ·cases hb
  ·rename_i b
   split at hb
   ·rename_i w' es' l' hbb
    split at hb
    ·rename_i he; subst he
     simp only [Option.some.injEq, Prod.mk.injEq] at hb
     obtain ⟨rfl, rfl, rfl⟩ := hb
     obtain ⟨h0, rfl, hone⟩ := hs
     obtain ⟨h1 | ⟨X, hF, h1⟩, _⟩ := h.bk b _ hbb
     ·obtain ⟨e, H', L', d⟩ := copy (T := []) h1.1 h1.2 (fun b hb => by simp at hb) (fun X b hk _ hb => by simp at hb)
      exact ⟨e, H', L', d.eq, d.ev, d.hr, d.rp, fun X hX _ => d.un X hX (fun b hb => by simp at hb)⟩
     ·have hX := h1.bk
      have hOX : Ow L B X := ⟨b, _, hbb, rfl, hX, hF⟩
      have hT : ∀ c ∈ ptch (.gr b), c < L.n → some b = some c ∧ ∀ Y, (L.m c).bk = some Y → ¬ L.F Y ∧ Ow L B Y := by
       intro c hc hcn
       simp only [ptch, List.mem_cons, List.not_mem_nil, or_false] at hc; subst hc
       refine ⟨rfl, fun Y hY => ?_⟩
       rw [hX] at hY; simp only [Option.some.injEq] at hY; subst hY
       exact ⟨hF, hOX⟩
      have hnot : ¬ Ow L (pkill B (some b)) X := fun ho => Ow_kill_ne h hbb hX ho rfl
      have hTo : ∀ Y c, some b = some c → (L.m c).bk = some Y → c ∈ ptch (.gr b) → ¬ Ow L (pkill B (some b)) Y := by
       intro Y c hc hY _
       simp only [Option.some.injEq] at hc; subst hc
       rw [hX] at hY; simp only [Option.some.injEq] at hY; subst hY
       exact hnot
      obtain ⟨ls, sp, g1, g2, g3, g4⟩ := h1
      have hll := g3.len
      have hadd : (l'.length + m.length) * es' = ls.length + cs.length := by rw [Nat.add_mul, hll, hcl]
      have hst : ∀ Y, L.F Y → Y ≠ X := fun Y hY e => hF (e ▸ hY)
      by_cases hm0 : m.length = 0
      ·have hmn : m = [] := List.eq_nil_of_length_eq_zero hm0
       subst hmn
       have hvapp : vapp es' bytes H (L.m b) 0 cs = some (L.m b, H) := by
        rcases g4 with ⟨g4, _⟩ | ⟨c, g5, g4, _⟩
        ·rw [g4]; simp only [vapp]
         rw [if_pos ⟨trivial, hes, by rw [g2]; simp [Blk.cells]; omega, by rw [g2]; rfl⟩]; rfl
        ·rw [g4]; simp only [vapp, if_true]
         rw [if_pos g5]
       refine ⟨_, _, _, did_more h hvapp (Nat.le_refl _) h.wf (fun _ _ _ => rfl) hT ⟨.inr ⟨X, hF, ls, sp, g1, g2, by rw [List.append_nil]; exact g3, by rw [List.append_nil]; exact g4⟩, hone⟩ hone (fun Y hY _ => ?_) hTo⟩
       rw [hX] at hY; simp only [Option.some.injEq] at hY; subst hY
       exact .inl ⟨hOX, hnot⟩
      ·-- in place
       have place : ∀ (a' : AV), a'.bk = some X → a'.cl = some [a'] → cs.length ≤ sp.length → vapp es' bytes H (L.m b) m.length cs = some (a', H.up X (splice (ls ++ sp) ls.length cs)) →
         ((a' = .sg X 0 0 (l' ++ m).length es' ∧ 0 < es') ∨ ∃ c, (l' ++ m).length ≤ c ∧ a' = .sl X 0 (l' ++ m).length c ∧ (sp.drop cs.length).length = (c - (l' ++ m).length) * es') →
         ∃ e H' L', Did L H B (vapp es' bytes H (L.m b) m.length cs) (.gr B.length) (pkill B (some b) ++ [.gs (w' || !m.isEmpty) es' (l' ++ m)]) (ptch (.gr b)) e H' L' := by
        intro a' ha' hone' hroom hvapp hform
        have hsp : splice (ls ++ sp) ls.length cs = (ls ++ cs) ++ sp.drop cs.length := by
         unfold splice
         rw [List.take_left' rfl, List.drop_append, List.drop_of_length_le (by omega), Nat.add_sub_cancel_left, List.nil_append, List.append_assoc]
        rw [hsp] at hvapp
        have hs' : Stay L.F H L.F (H.up X ((ls ++ cs) ++ sp.drop cs.length)) := ⟨Nat.le_refl _, fun _ h => h, fun Y hY => up_other (hst Y hY)⟩
        refine ⟨_, _, _, did_more h hvapp (Nat.le_refl _) (fun Y hY => by simp only [AH.up] at hY ⊢; rw [if_neg (by omega)]; exact h.wf Y hY) (fun Y hY hYT => up_other fun e => hYT b (by simp [ptch]) h0 (by rw [hX, e])) hT ⟨.inr ⟨X, hF, ls ++ cs, sp.drop cs.length, g1, up_self, RcE.mono hs' _ _ (g3.app hm), hform⟩, hone'⟩ hone' (fun Y hY _ => ?_) hTo⟩
        rw [ha'] at hY; simp only [Option.some.injEq] at hY; subst hY
        exact .inl ⟨hOX, hnot⟩
       rcases g4 with ⟨g4, _⟩ | ⟨c, g5, g4, g6⟩
       ·by_cases hfit : (l'.length + m.length) * es' ≤ (ls ++ sp).length
        ·refine place (.sg X 0 0 (l' ++ m).length es') rfl rfl (by simp at hfit; omega) ?_ (.inl ⟨rfl, hes⟩)
         rw [g4]; simp only [vapp]
         rw [if_pos ⟨trivial, hes, by rw [g2]; simp [Blk.cells]; omega, by rw [g2]; rfl⟩, if_neg hm0, if_pos (by rw [g2]; simpa [Blk.cells] using hfit), wr_rw' g2 (by simp at hfit ⊢; omega)]
         simp [hll]
        ·have hvapp : vapp es' bytes H (L.m b) m.length cs = some (.sg H.nx 0 0 (l' ++ m).length es', (H.al (ls ++ cs)).no X) := by
          rw [g4]; simp only [vapp]
          have hrd : H.rd X 0 (l'.length * es') = some ls := by
           refine rd_at (fun i v hi => ?_) ?_ hll
           ·rw [g2, Nat.zero_add]; simp only [Blk.cells]; rw [List.getElem?_append_left (List.getElem?_eq_some_iff.1 hi).1]; exact hi
           ·rw [g2]; simp [Blk.cells]
          rw [if_pos ⟨trivial, hes, by rw [g2]; simp [Blk.cells]; omega, by rw [g2]; rfl⟩, if_neg hm0, if_neg (by rw [g2]; simpa [Blk.cells] using hfit), if_pos ⟨trivial, trivial, hle⟩, hrd]
          simp
         have hs' : Stay L.F H L.F ((H.al (ls ++ cs)).no X) := ⟨Nat.le_succ _, fun _ h => h, fun Y hY => by rw [no_other (hst Y hY)]; exact al_old (h.fl Y hY)⟩
         refine ⟨_, _, _, did_more h hvapp (Nat.le_succ _) (fun Y hY => by simp only [AH.no, AH.al] at hY ⊢; rw [if_neg (by omega), if_neg (by omega)]; exact h.wf Y (by omega)) (fun Y hY hYT => ?_) hT ⟨.inr ⟨H.nx, fun hF => by have := h.fl _ hF; omega, ls ++ cs, [], Nat.lt_succ_self _, ?_, RcE.mono hs' _ _ (g3.app hm), .inl ⟨rfl, hes⟩⟩, rfl⟩ rfl (fun Y hY _ => ?_) hTo⟩
         ·rw [no_other (fun e => hYT b (by simp [ptch]) h0 (by rw [hX, e]))]; exact al_old hY
         ·rw [no_other (by omega), List.append_nil]; exact al_new
         ·simp only [AV.bk, Option.some.injEq] at hY
          exact .inr (by omega)
       ·by_cases hfit : l'.length + m.length ≤ c
        ·have hsub : (c - l'.length) * es' = (c - (l' ++ m).length) * es' + cs.length := by
          rw [hcl, ← Nat.add_mul, List.length_append]; congr 1; omega
         refine place (.sl X 0 (l' ++ m).length c) rfl rfl (by omega) ?_ (.inr ⟨c, by simpa using hfit, rfl, by rw [List.length_drop]; omega⟩)
         rw [g4]; simp only [vapp, if_neg hm0]
         rw [if_pos hfit, Nat.zero_add, ← hll, wr_rw' g2 (by simp; omega)]
         simp
        ·have hvapp : vapp es' bytes H (L.m b) m.length cs = some (.sg H.nx 0 0 (l' ++ m).length es', H.al (ls ++ cs)) := by
          rw [g4]; simp only [vapp, if_neg hm0]
          have hrd : H.rd X 0 (l'.length * es') = some ls := by
           refine rd_at (fun i v hi => ?_) ?_ hll
           ·rw [g2, Nat.zero_add]; simp only [Blk.cells]; rw [List.getElem?_append_left (List.getElem?_eq_some_iff.1 hi).1]; exact hi
           ·rw [g2]; simp [Blk.cells]
          rw [if_neg hfit, if_pos hle, hrd]
          simp
         have hs' : Stay L.F H L.F (H.al (ls ++ cs)) := ⟨Nat.le_succ _, fun _ h => h, fun Y hY => al_old (h.fl Y hY)⟩
         refine ⟨_, _, _, did_more h hvapp (Nat.le_succ _) (al_wf h.wf) (fun Y hY hYT => al_old hY) hT ⟨.inr ⟨H.nx, fun hF => by have := h.fl _ hF; omega, ls ++ cs, [], Nat.lt_succ_self _, by rw [List.append_nil]; exact al_new, RcE.mono hs' _ _ (g3.app hm), .inl ⟨rfl, hes⟩⟩, rfl⟩ rfl (fun Y hY _ => ?_) hTo⟩
         simp only [AV.bk, Option.some.injEq] at hY
         exact .inr (by omega)
    ·cases hb
   ·cases hb
  ·cases hb
 ·cases hv
end
end Go.AX
end
section
namespace Go.AX
open Go
section
variable {L L' : Lk} {H H' : AH} {B B' : List PB} {E : Nat → PV} {Ea : Env}
def pbsl (B : List PB) (n : Nat) (l : List PV) : Option (PV × List PB) :=
 if n = 0 then (if l.length = 0 then some (.vs 2 0 [], B) else none) else if PV.scaL l = true ∧ l.length = n * (l.length / n) then some (.gr B.length, B ++ [.gs true (l.length / n) (chunk n (l.length / n) l)]) else none
def pmks (B : List PB) (bytes : Nat) (z : List PV) : PV → PV → Option (PV × List PB)
 | .it _ l, .it _ c => if (0 ≤ l ∧ l ≤ c ∧ c ≤ 9223372036854775807 ∧ (bytes : Int) * c ≤ 140737488355328) ∧ PV.scaL z = true then some (.gr B.length, B ++ [.gs true z.length (List.replicate l.toNat (elemOf z))]) else none
 | _, _ => none
def pu8s : List PV → Option (List Int)
 | [] => some []
 | .it .u8 n :: r => (pu8s r).map (n :: ·)
 | _ => none
theorem pu8s_ok {F : Nat → Prop} {H : AH} : ∀ {l : List PV} {ns : List Int} {cs : List AV}, pu8s l = some ns → RcE F H 1 l cs → u8s cs = some ns
 | [], ns, cs, h, hr => by
  cases h
  simp only [RcE] at hr; subst hr; rfl
 | v :: r, ns, cs, h, hr => by
  unfold pu8s at h
  split at h
  ·cases ‹v :: r = []›
  ·rename_i n r' he
   cases he
   obtain ⟨ns', h1, rfl⟩ := Option.map_eq_some_iff.1 h
   obtain ⟨a, c, cs', g1, g2, g3, rfl, g5⟩ := hr
   simp only [Rc] at g1; subst g1
   simp only [AV.cl, Option.some.injEq] at g2; subst g2
   simp only [List.cons_append, List.nil_append, u8s, pu8s_ok h1 g5, Option.map_some]
  ·cases h
def ps2b (B : List PB) : PV → Option (PV × List PB)
 | .st s => some (.gr B.length, B ++ [.gs true 1 ((sbs s).map (.it .u8))])
 | _ => none
def pappn (es bytes : Nat) (B : List PB) (z : List PV) : PV → PV → Option (PV × List PB)
 | .sn, .it .i64 k => if (0 ≤ k ∧ k ≤ 9223372036854775807 ∧ k.toNat * bytes ≤ 140737488355328) ∧ PV.scaL z = true ∧ z.length = es ∧ 0 < es then some (.gr B.length, B ++ [.gs true es (List.replicate k.toNat (elemOf z))]) else none
 | _, _ => none
theorem RcE_u8 {F : Nat → Prop} {H : AH} : ∀ (l : List Int), RcE F H 1 (l.map (PV.it .u8)) (l.map (AV.it .u8))
 | [] => rfl
 | n :: r => ⟨.it .u8 n, [.it .u8 n], r.map (AV.it .u8), rfl, rfl, rfl, rfl, RcE_u8 r⟩
theorem mpb_old {es : List (AV × AV)} {b : Nat} (h : b < H.nx) : (H.mpb es).g b = H.g b := by simp only [AH.mpb]; rw [if_neg (by omega)]
theorem mpb_new {es : List (AV × AV)} : (H.mpb es).g H.nx = .mp es := by simp [AH.mpb]
theorem mup_self {es : List (AV × AV)} {b : Nat} : (H.mup b es).g b = .mp es := by simp [AH.mup]
theorem mup_other {es : List (AV × AV)} {b x : Nat} (h : x ≠ b) : (H.mup b es).g x = H.g x := by simp [AH.mup, h]
theorem did_mi (h : HR L H B) {es : List (AV × AV)} {r : Option (AV × AH)} (hr : r = some (.mp H.nx, H.mpb es)) : Did L H B r (.gr B.length) (B ++ [.mi es]) [] (.mp H.nx) (H.mpb es) (L.put (.mp H.nx)) := by
 have hF : ∀ X, L.F X → (H.mpb es).g X = H.g X := fun X hX => mpb_old (h.fl X hX)
 have hw : ∀ X, (H.mpb es).nx ≤ X → (H.mpb es).g X = .no := fun X hX => by
  simp only [AH.mpb] at hX ⊢
  rw [if_neg (by omega)]; exact h.wf X (by omega)
 have hne : HR L (H.mpb es) B := HR_ext h (Nat.le_succ _) hw fun X hX _ => mpb_old hX
 have hbk : BkR (L.put (.mp H.nx)) (H.mpb es) (.mi es) (.mp H.nx) := ⟨H.nx, rfl, Nat.lt_succ_self _, fun hF => by have := h.fl _ hF; omega, mpb_new⟩
 refine ⟨hr, Ev_add h rfl (Nat.le_succ _) hF (fun X hX _ _ => mpb_old hX) (fun _ h => h) (fun X hX _ _ => ?_), HR_add hne hbk (fun X hX _ _ ho => ?_), ?_, fun X hX _ => mpb_old hX⟩
 ·simp only [AV.bk, Option.some.injEq] at hX; exact .inr (by omega)
 ·simp only [AV.bk, Option.some.injEq] at hX
  have := Ow_lt h ho
  omega
 ·rw [← h.n]
  exact ⟨Nat.lt_succ_self _, put_new.symm, rfl⟩
theorem did_mup (h : HR L H B) {b X : Nat} {es es' : List (AV × AV)} {v : PV} {a : AV} {r : Option (AV × AH)} (hb : B[b]? = some (.mi es)) (hX : L.m b = .mp X) (hF : ¬ L.F X) (hlt : X < H.nx)
  (hr : r = some (a, H.mup X es')) (hv : Rp L H v a) (hc : v.cld = true) : Did L H B r v (B.set b (.mi es')) [b] a (H.mup X es') L := by
 have hbl : b < B.length := (List.getElem?_eq_some_iff.1 hb).1
 have hXb : (L.m b).bk = some X := by rw [hX]; rfl
 have hFX : ∀ Y, L.F Y → (H.mup X es').g Y = H.g Y := fun Y hY => mup_other (fun e => hF (e ▸ hY))
 have s : Stay L.F H L.F (H.mup X es') := ⟨Nat.le_refl _, fun _ h => h, hFX⟩
 have hO : Ow L B X := ⟨b, _, hb, rfl, hXb, hF⟩
 have get : ∀ c q, (B.set b (.mi es'))[c]? = some q → (c = b ∧ q = .mi es') ∨ (c ≠ b ∧ B[c]? = some q) := by
  intro c q hq
  rw [List.getElem?_set] at hq
  split at hq
  ·rename_i he
   try rw [if_pos (by omega)] at hq
   simp only [Option.some.injEq] at hq
   exact .inl ⟨he.symm, hq.symm⟩
  ·rename_i he; exact .inr ⟨fun e => he e.symm, hq⟩
 refine ⟨hr, ⟨⟨s, Nat.le_refl _, fun _ _ => rfl⟩, fun Y hY hFY hOY => mup_other (fun e => hOY (e ▸ hO)), fun Y hY => .inl hY, fun Y ⟨c, q, h1, h2, h3, h4⟩ => ?_⟩, ⟨by rw [List.length_set]; exact h.n, h.fl, fun Y hY => ?_, fun c q hq => ?_, fun c c' q q' Y hq hq' ho ho' hY hY' hFY => ?_⟩, Rc.p _ (Rc.mono s _ (Rp.c v hc hv)), fun Y hY hT => ?_⟩
 ·rcases get c q h1 with ⟨rfl, rfl⟩ | ⟨_, h1⟩
  ·exact .inl ⟨c, _, hb, rfl, h3, h4⟩
  ·exact .inl ⟨c, q, h1, h2, h3, h4⟩
 ·rw [mup_other (fun e => by simp only [AH.mup] at hY; omega)]
  exact h.wf Y hY
 ·rcases get c q hq with ⟨rfl, rfl⟩ | ⟨hne, hq⟩
  ·exact ⟨X, hX, hlt, hF, mup_self⟩
  ·refine (h.bk c q hq).keep ⟨s, Nat.le_refl _, fun _ _ => rfl⟩ fun Y ho hY hFY => ⟨mup_other fun e => ?_, hFY⟩
   subst e
   exact hne (h.dj c b q _ Y hq hb ho rfl hY hXb hFY)
 ·rcases get c q hq with ⟨e1, e2⟩ | ⟨hne, hq2⟩ <;> rcases get c' q' hq' with ⟨e3, e4⟩ | ⟨hne', hq2'⟩
  ·rw [e1, e3]
  ·rw [e1] at hY ⊢
   exact h.dj b c' _ q' Y hb hq2' rfl ho' hY hY' hFY
  ·rw [e3] at hY' ⊢
   exact h.dj c b q _ Y hq2 hb ho rfl hY hY' hFY
  ·exact h.dj c c' q q' Y hq2 hq2' ho ho' hY hY' hFY
 ·exact mup_other fun e => hT b List.mem_cons_self (by rw [h.n]; exact hbl) (by rw [e]; exact hXb)
def pment (z : AV) (B : List PB) : PV → PV → Option (PV × List PB)
 | .gr b, .it k n => match B[b]? with
  | some (.mi ((.it .i64 c, u) :: es)) => (mfindI k n es).bind fun r => match r with
   | some (v, s) => if (ofAV v).cld = true ∧ (ofAV s).cld = true then some (.tu [ofAV v, ofAV s], B.set b (.mi ((.it .i64 c, u) :: es))) else none
   | none => if (ofAV z).cld = true then some (.tu [ofAV z, .it .i64 c], B.set b (.mi ((.it .i64 (c + 1), u) :: (es ++ [(.it k n, .tu [z, .it .i64 c])])))) else none
  | _ => none
 | _, _ => none
theorem pment_ok (h : HR L H B) {z : AV} {x i v : PV} {a c : AV} (hx : Rp L H x a) (hi : Rp L H i c) (hv : pment z B x i = some (v, B')) : ∃ e H' L', Did L H B (vment z H a c) v B' (ptch x) e H' L' := by
 unfold pment at hv
 split at hv
 ·rename_i b k n
  simp only [Rp] at hi; subst hi
  split at hv
  ·rename_i cc u es hb
   obtain ⟨r, hr, hv⟩ := Option.bind_eq_some_iff.1 hv
   obtain ⟨hlt, rfl, hcl⟩ := hx
   obtain ⟨X, h1, h2, h3, h4⟩ := h.bk _ _ hb
   have hvm : ∀ {q : AV × AH}, vment z H (.mp X) (.it k n) = some q → vment z H (L.m b) (.it k n) = some q := fun e => by rw [h1]; exact e
   split at hv
   ·rename_i v1 s1
    split at hv
    ·rename_i hcd
     cases hv
     exact ⟨_, _, _, did_mup h hb h1 h3 h2 (hvm (by simp only [vment, h4, hr, Option.map_some])) ⟨_, rfl, _, _, rfl, Rc.p _ (Rc_of v1), _, _, rfl, Rc.p _ (Rc_of s1), rfl⟩ (by simp only [PV.cld, PV.cldL, hcd.1, hcd.2, Bool.and_self])⟩
    ·cases hv
   ·split at hv
    ·rename_i hcd
     cases hv
     exact ⟨_, _, _, did_mup h hb h1 h3 h2 (hvm (by simp only [vment, h4, hr, Option.map_some])) ⟨_, rfl, _, _, rfl, Rc.p _ (Rc_of z), _, _, rfl, rfl, rfl⟩ (by simp only [PV.cld, PV.cldL, hcd, Bool.and_self])⟩
    ·cases hv
  ·cases hv
 ·cases hv
def pmsto (q : Bool) (B : List PB) : PV → PV → PV → Option (PV × List PB)
 | .gr b, .it kk n, x => match B[b]? with
  | some (.mi es) => (tv x).bind fun a => (mstoQ q kk n a es).map fun es' => (.tu [], B.set b (.mi es'))
  | _ => none
 | _, _, _ => none
theorem pmsto_ok (h : HR L H B) {q : Bool} {m s x v : PV} {a c d : AV} (hm : Rp L H m a) (hs : Rp L H s c) (hx : Rp L H x d) (hv : pmsto q B m s x = some (v, B')) : ∃ e H' L', Did L H B (vmsto q H a c d) v B' (ptch m) e H' L' := by
 unfold pmsto at hv
 split at hv
 ·rename_i b k n _
  simp only [Rp] at hs; subst hs
  split at hv
  ·rename_i es hb
   obtain ⟨a', ha, hv⟩ := Option.bind_eq_some_iff.1 hv
   obtain ⟨es', hes, hv⟩ := Option.map_eq_some_iff.1 hv
   cases hv
   have := tv_eq _ hx ha
   subst this
   obtain ⟨hlt, rfl, hcl⟩ := hm
   obtain ⟨X, h1, h2, h3, h4⟩ := h.bk _ _ hb
   exact ⟨_, _, _, did_mup h hb h1 h3 h2 (by rw [h1]; simp only [vmsto, h4, hes, Option.map_some]) ⟨_, rfl, rfl⟩ rfl⟩
  ·cases hv
 ·cases hv
def pop : VOp → (Nat → PV) → List PB → Option (PV × List PB)
 | .alloc z, _, B => some (.pt B.length 0, B ++ [.va (z.map ofAV)])
 | .box x, E, B => (pev E x).cl.map fun l => (.pt B.length 0, B ++ [.va l])
 | .bsl n z ps, E, B => (pfill E (z.map ofAV) ps).bind fun l => pbsl B n l
 | .mks bytes z l c, E, B => pmks B bytes (z.map ofAV) (pev E l) (pev E c)
 | .sto n a x, E, B => psto n B (pev E a) (pev E x)
 | .app es bytes s x, E, B => (pcont es B (pev E x)).bind fun m => papp es bytes B (pev E s) m
 | .b2s x, E, B => (pcont 1 B (pev E x)).bind fun l => (pu8s l).map fun ns => (.st (bst ns), B)
 | .s2b x, E, B => ps2b B (pev E x)
 | .appn es bytes z s n, E, B => pappn es bytes B (z.map ofAV) (pev E s) (pev E n)
 | .mkm, _, B => some (.gr B.length, B ++ [.mi map0])
 | .ment z m k, E, B => pment z B (pev E m) (pev E k)
 | .mup q m s x, E, B => pmsto q B (pev E m) (pev E s) (pev E x)
 | vo, E, B => (pvop E B vo).map (·, B)
def tch (E : Nat → PV) : VOp → List Nat
 | .sto _ a _ => ptch (pev E a)
 | .app _ _ s _ => ptch (pev E s)
 | .ment _ m _ => ptch (pev E m)
 | .mup _ m _ _ => ptch (pev E m)
 | _ => []
theorem Did.same (h : HR L H B) {r : Option (AV × AH)} {v : PV} {c : AV} {T : List Nat} (hr : r = some (c, H)) (hv : Rp L H v c) : Did L H B r v B T c H L := ⟨hr, .refl, h, hv, fun _ _ _ => rfl⟩
theorem flat_rep {z : List AV} : ∀ n, ((List.replicate n z).flatten).length = n * z.length
 | 0 => by simp
 | n + 1 => by simp only [List.replicate_succ, List.flatten_cons, List.length_append, flat_rep n, Nat.add_mul]; omega
theorem RcL_ofAV {F : Nat → Prop} : ∀ (z : List AV), RcL F H (z.map ofAV) z
 | [] => by simp [RcL]
 | v :: r => ⟨v, r, rfl, Rc_of v, RcL_ofAV r⟩
theorem pop_ok (h : HR L H B) (hE : ER L H E Ea) {vo : VOp} {v : PV} (hv : pop vo E B = some (v, B')) : ∃ c H' L', Did L H B (vop vo Ea H) v B' (tch E vo) c H' L' := by
 unfold pop at hv
 split at hv
 ·simp only [Option.some.injEq, Prod.mk.injEq] at hv
  obtain ⟨rfl, rfl⟩ := hv
  exact ⟨_, _, _, did_va h rfl (RpL_ofAV _)⟩
 ·obtain ⟨l, hl, hv⟩ := Option.map_eq_some_iff.1 hv
  simp only [Prod.mk.injEq] at hv
  obtain ⟨rfl, rfl⟩ := hv
  obtain ⟨c, h1, h2⟩ := (Rp_ev hE _).cl hl
  exact ⟨_, _, _, did_va h (by simp only [vop, h1, Option.map_some]) h2⟩
 ·rename_i _ _ n z ps
  simp only [Option.bind_eq_some_iff] at hv
  obtain ⟨l, hl, hv⟩ := hv
  obtain ⟨l', h1, h2⟩ := pfill_ok hE _ (RpL_ofAV _) hl
  unfold pbsl at hv
  split at hv
  ·rename_i hn; subst hn
   split at hv
   ·rename_i hl0
    simp only [Option.some.injEq, Prod.mk.injEq] at hv
    obtain ⟨rfl, rfl⟩ := hv
    have : l' = [] := List.eq_nil_of_length_eq_zero (by rw [h2.len]; exact hl0)
    subst this
    exact ⟨_, _, _, did_em h (by simp only [vop, h1, Option.map_some])⟩
   ·cases hv
  ·rename_i hn
   split at hv
   ·rename_i hcnd
    simp only [Option.some.injEq, Prod.mk.injEq] at hv
    obtain ⟨rfl, rfl⟩ := hv
    have hc := chunk_ok (RpL.c l (scaL_cldL hcnd.1) h2) hcnd.1 hcnd.2
    exact ⟨_, _, _, did_gs h (sp := []) (c := n) (by simp only [vop, h1, Option.map_some, chunk_len, List.append_nil]) hc (by rw [chunk_len]; omega) (by rw [chunk_len]; simp)⟩
   ·cases hv
 ·rename_i _ _ bytes z l c
  have hl := Rp_ev hE l
  have hc := Rp_ev hE c
  unfold pmks at hv
  split at hv
  ·rename_i k i k' j e1 e2
   rw [e1] at hl; rw [e2] at hc
   simp only [Rp] at hl hc
   split at hv
   ·rename_i hcnd
    obtain ⟨⟨c1, c2, c3, c4⟩, c5⟩ := hcnd
    simp only [Option.some.injEq, Prod.mk.injEq] at hv
    obtain ⟨rfl, rfl⟩ := hv
    have hrep := rep_ok (F := L.F) (RcL_ofAV (H := H) z) c5 i.toNat
    have hzl : (z.map ofAV).length = z.length := by simp
    have hsplit : (List.replicate j.toNat z).flatten = (List.replicate i.toNat z).flatten ++ (List.replicate (j.toNat - i.toNat) z).flatten := by
     rw [← List.flatten_append, List.replicate_append_replicate]
     congr 2; omega
    have hr : vop (.mks bytes z l c) Ea H = some (.sl H.nx 0 (List.replicate i.toNat (elemOf (z.map ofAV))).length j.toNat, H.al ((List.replicate i.toNat z).flatten ++ (List.replicate (j.toNat - i.toNat) z).flatten)) := by
     simp only [vop, hl, hc, vmks]
     rw [if_pos ⟨c1, c2, c3, c4⟩, hsplit]
     simp
    exact ⟨_, _, _, did_gs h hr hrep (by simp; omega) (by rw [flat_rep, List.length_replicate, hzl])⟩
   ·cases hv
  ·cases hv
 ·exact psto_ok h (Rp_ev hE _) (Rp_ev hE _) hv
 ·simp only [Option.bind_eq_some_iff] at hv
  obtain ⟨m, hm, hv⟩ := hv
  obtain ⟨cs, h1, h2⟩ := pcont_ok h (Rp_ev hE _) hm
  obtain ⟨e, H', L', d⟩ := papp_ok h (Rp_ev hE _) h2 hv
  refine ⟨e, H', L', ⟨?_, d.ev, d.hr, d.rp, d.un⟩⟩
  simp only [vop, h1, Option.bind_some]
  exact d.eq
 ·simp only [Option.bind_eq_some_iff, Option.map_eq_some_iff, Prod.mk.injEq] at hv
  obtain ⟨l, hl, ns, hns, rfl, rfl⟩ := hv
  obtain ⟨cs, h1, h2⟩ := pcont_ok h (Rp_ev hE _) hl
  exact ⟨_, _, _, Did.same h (by simp only [vop, vb2s, h1, Option.bind_some, pu8s_ok hns h2, Option.map_some]) rfl⟩
 ·rename_i _ _ x
  have hx := Rp_ev hE x
  unfold ps2b at hv
  split at hv
  ·rename_i s e1
   rw [e1] at hx
   simp only [Rp] at hx
   simp only [Option.some.injEq, Prod.mk.injEq] at hv
   obtain ⟨rfl, rfl⟩ := hv
   have hlen : ((sbs s).map (PV.it .u8)).length = s.size := by rw [List.length_map, sbs_len]
   refine ⟨_, _, _, did_sg h (es := 1) (cells := (sbs s).map (AV.it .u8)) (l := (sbs s).map (PV.it .u8)) (by simp only [vop, hx, vs2b, hlen]) (RcE_u8 _) (by decide)⟩
  ·cases hv
 ·rename_i _ _ es bytes z x n
  have hx := Rp_ev hE x
  have hn := Rp_ev hE n
  unfold pappn at hv
  split at hv
  ·rename_i k e1 e2
   rw [e1] at hx; rw [e2] at hn
   simp only [Rp] at hx hn
   split at hv
   ·rename_i hcnd
    obtain ⟨hb, c5, c6, c7⟩ := hcnd
    simp only [Option.some.injEq, Prod.mk.injEq] at hv
    obtain ⟨rfl, rfl⟩ := hv
    have hzl : (z.map ofAV).length = z.length := by simp
    by_cases hk : k = 0
    ·subst hk
     refine ⟨_, _, _, did_more h (k := none) (T := []) (a := .sn) (p := .gs true es []) (by simp only [vop, hx, hn, vappn]; rw [if_pos hb, if_pos trivial]) (Nat.le_refl _) h.wf (fun _ _ _ => rfl) (fun b hb => by cases hb) ⟨.inl ⟨Rc_snil, fun _ => rfl⟩, rfl⟩ rfl (fun X hX => by cases hX) (fun X b hb => by cases hb)⟩
    ·have hrep := rep_ok (F := L.F) (RcL_ofAV (H := H) z) c5 k.toNat
     rw [c6] at hrep
     refine ⟨_, _, _, did_sg h (es := es) (cells := (List.replicate k.toNat z).flatten) (l := List.replicate k.toNat (elemOf (z.map ofAV))) (by simp only [vop, hx, hn, vappn]; rw [if_pos hb, if_neg hk, List.length_replicate]) hrep c7⟩
   ·cases hv
  ·cases hv
 ·cases hv
  exact ⟨_, _, _, did_mi h rfl⟩
 ·exact pment_ok h (Rp_ev hE _) (Rp_ev hE _) hv
 ·exact pmsto_ok h (Rp_ev hE _) (Rp_ev hE _) (Rp_ev hE _) hv
 ·obtain ⟨u, hu, hv⟩ := Option.map_eq_some_iff.1 hv
  simp only [Prod.mk.injEq] at hv
  obtain ⟨rfl, rfl⟩ := hv
  obtain ⟨c, h1, h2⟩ := pvop_ok h hE hu
  exact ⟨c, H, L, Did.same h h1 h2⟩
mutual
def PV.ren (r : Nat → Nat) : PV → PV
 | .pt b o => .pt (r b) o
 | .pg es b i o => .pg es (r b) i o
 | .gr b => .gr (r b)
 | .gp es b lo n => .gp es (r b) lo n
 | .fn f p c => .fn f (PV.renL r p) (PV.renL r c)
 | .fc t v => .fc t (v.ren r)
 | .ag l => .ag (PV.renL r l)
 | .tu l => .tu (PV.renL r l)
 | .bo x => .bo x
 | .it k n => .it k n
 | .st x => .st x
 | .np => .np
 | .nf => .nf
 | .ni => .ni
 | .sn => .sn
 | .dd => .dd
 | .vs w es l => .vs w es l
 | .pe l o => .pe l o
def PV.renL (r : Nat → Nat) : List PV → List PV
 | [] => []
 | v :: l => v.ren r :: PV.renL r l
end
def PB.ren (r : Nat → Nat) : PB → PB
 | .va l => .va (PV.renL r l)
 | p => p
structure Sub (r : Nat → Nat) (L L' : Lk) : Prop where
 n : ∀ b, b < L.n → r b < L'.n
 m : ∀ b, b < L.n → L'.m (r b) = L.m b
 F : ∀ X, L'.F X ↔ L.F X
mutual
theorem Rp.ren {r : Nat → Nat} (s : Sub r L L') : ∀ (v : PV) {a : AV}, Rp L H v a → Rp L' H (v.ren r) a
 | .bo _, _, h | .it _ _, _, h | .st _, _, h | .np, _, h | .nf, _, h | .ni, _, h | .sn, _, h => h
 | .dd, _, _ => trivial
 | .vs w es l, _, h => by
  have : L'.F = L.F := funext fun X => propext (s.F X)
  show Rc L'.F H _ _
  rw [this]; exact h
 | .pe l o, _, h => by
  have : L'.F = L.F := funext fun X => propext (s.F X)
  show Rc L'.F H _ _
  rw [this]; exact h
 | .fn f p c, _, ⟨p', c', h1, h2, h3⟩ => ⟨p', c', h1, RpL.ren s p h2, RpL.ren s c h3⟩
 | .fc t v, _, ⟨v', h1, h2⟩ => ⟨v', h1, Rp.ren s v h2⟩
 | .ag l, _, ⟨l', h1, h2⟩ => ⟨l', h1, RpL.ren s l h2⟩
 | .tu l, _, ⟨l', h1, h2⟩ => ⟨l', h1, RpL.ren s l h2⟩
 | .pt b o, _, ⟨h0, h⟩ => ⟨s.n b h0, by rw [s.m b h0]; exact h⟩
 | .pg es b i o, _, ⟨h0, h⟩ => ⟨s.n b h0, by rw [s.m b h0]; exact h⟩
 | .gr b, _, ⟨h0, h⟩ => ⟨s.n b h0, by rw [s.m b h0]; exact h⟩
 | .gp es b lo n, _, ⟨h0, h⟩ => ⟨s.n b h0, by
   have : L'.F = L.F := funext fun X => propext (s.F X)
   rw [s.m b h0, this]; exact h⟩
theorem RpL.ren {r : Nat → Nat} (s : Sub r L L') : ∀ (l : List PV) {as : List AV}, RpL L H l as → RpL L' H (PV.renL r l) as
 | [], _, h => h
 | v :: l, _, ⟨a, l', h1, h2, h3⟩ => ⟨a, l', h1, Rp.ren s v h2, RpL.ren s l h3⟩
end
mutual
def PV.bel (n : Nat) : PV → Bool
 | .pt b _ => decide (b < n)
 | .pg _ b _ _ => decide (b < n)
 | .gr b => decide (b < n)
 | .gp _ b _ _ => decide (b < n)
 | .fn _ p c => PV.belL n p && PV.belL n c
 | .fc _ v => v.bel n
 | .ag l => PV.belL n l
 | .tu l => PV.belL n l
 | _ => true
def PV.belL (n : Nat) : List PV → Bool
 | [] => true
 | v :: l => v.bel n && PV.belL n l
end
def PB.bel (n : Nat) : PB → Bool
 | .va l => PV.belL n l
 | _ => true
mutual
theorem Rp.unren {r : Nat → Nat} (s : Sub r L L') : ∀ (v : PV) {a : AV}, v.bel L.n = true → Rp L' H (v.ren r) a → Rp L H v a
 | .bo _, _, _, h | .it _ _, _, _, h | .st _, _, _, h | .np, _, _, h | .nf, _, _, h | .ni, _, _, h | .sn, _, _, h => h
 | .dd, _, _, _ => trivial
 | .vs w es l, _, _, h => by
  have : L'.F = L.F := funext fun X => propext (s.F X)
  show Rc L.F H _ _
  rw [← this]; exact h
 | .pe l o, _, _, h => by
  have : L'.F = L.F := funext fun X => propext (s.F X)
  show Rc L.F H _ _
  rw [← this]; exact h
 | .fn f p c, _, hb, ⟨p', c', h1, h2, h3⟩ => by
  simp only [PV.bel, Bool.and_eq_true] at hb
  exact ⟨p', c', h1, RpL.unren s p hb.1 h2, RpL.unren s c hb.2 h3⟩
 | .fc t v, _, hb, ⟨v', h1, h2⟩ => by
  simp only [PV.bel] at hb
  exact ⟨v', h1, Rp.unren s v hb h2⟩
 | .ag l, _, hb, ⟨l', h1, h2⟩ => by
  simp only [PV.bel] at hb
  exact ⟨l', h1, RpL.unren s l hb h2⟩
 | .tu l, _, hb, ⟨l', h1, h2⟩ => by
  simp only [PV.bel] at hb
  exact ⟨l', h1, RpL.unren s l hb h2⟩
 | .pt b o, _, hb, ⟨_, h⟩ => by
  simp only [PV.bel, decide_eq_true_eq] at hb
  exact ⟨hb, by rw [← s.m b hb]; exact h⟩
 | .pg es b i o, _, hb, ⟨_, h⟩ => by
  simp only [PV.bel, decide_eq_true_eq] at hb
  exact ⟨hb, by rw [← s.m b hb]; exact h⟩
 | .gr b, _, hb, ⟨_, h⟩ => by
  simp only [PV.bel, decide_eq_true_eq] at hb
  exact ⟨hb, by rw [← s.m b hb]; exact h⟩
 | .gp es b lo n, _, hb, ⟨_, h⟩ => by
  simp only [PV.bel, decide_eq_true_eq] at hb
  have : L'.F = L.F := funext fun X => propext (s.F X)
  exact ⟨hb, by rw [← s.m b hb, ← this]; exact h⟩
theorem RpL.unren {r : Nat → Nat} (s : Sub r L L') : ∀ (l : List PV) {as : List AV}, PV.belL L.n l = true → RpL L' H (PV.renL r l) as → RpL L H l as
 | [], _, _, h => h
 | v :: l, _, hb, ⟨a, l', h1, h2, h3⟩ => by
  simp only [PV.belL, Bool.and_eq_true] at hb
  exact ⟨a, l', h1, Rp.unren s v hb.1 h2, RpL.unren s l hb.2 h3⟩
end
theorem BkR.ren {r : Nat → Nat} (s : Sub r L L') {p : PB} {a : AV} (h : BkR L H p a) : BkR L' H (p.ren r) a := by
 have e : L'.F = L.F := funext fun X => propext (s.F X)
 cases p with
 | no => trivial
 | va l =>
  obtain ⟨X, cs, rfl, h2, h3, h4, h5⟩ := h
  exact ⟨X, cs, rfl, h2, by rw [e]; exact h3, h4, RpL.ren s _ h5⟩
 | fv l => simp only [PB.ren, BkR]; rw [e]; exact h
 | gs w es l => simp only [PB.ren, BkR, GsR]; rw [e]; exact h
 | fz es l => simp only [PB.ren, BkR]; rw [e]; exact h
 | mi es => simp only [PB.ren, BkR]; rw [e]; exact h
theorem BkR.unren {r : Nat → Nat} (s : Sub r L L') {p : PB} {a : AV} (hb : p.bel L.n = true) (h : BkR L' H (p.ren r) a) : BkR L H p a := by
 have e : L'.F = L.F := funext fun X => propext (s.F X)
 cases p with
 | no => trivial
 | va l =>
  obtain ⟨X, cs, rfl, h2, h3, h4, h5⟩ := h
  exact ⟨X, cs, rfl, h2, by rw [← e]; exact h3, h4, RpL.unren s _ hb h5⟩
 | fv l => simp only [PB.ren, BkR] at h; rw [e] at h; exact h
 | gs w es l => simp only [PB.ren, BkR, GsR] at h; rw [e] at h; exact h
 | fz es l => simp only [PB.ren, BkR] at h; rw [e] at h; exact h
 | mi es => simp only [PB.ren, BkR] at h; rw [e] at h; exact h
mutual
def PV.res (B : List PB) : Nat → PV → Option PV
 | 0, .bo x => some (.bo x)
 | 0, .it k n => some (.it k n)
 | 0, _ => none
 | d + 1, .pt b o => match B[b]? with
  | some (.fv l) => some (.pe l o)
  | some (.va l) => (PV.resL B d l).map fun l => .pe l o
  | _ => none
 | d + 1, .pg es b i o => (pblk B b).bind fun p => if p.1 = es then (p.2[i]?).bind fun e => e.cl.bind fun c => if c.length = es then some (.pe c o) else none else none
 | d + 1, .gr b => match B[b]? with
  | some (.gs _ es l) => some (.vs 1 es l)
  | some (.fz es l) => some (.vs 1 es l)
  | _ => none
 | d + 1, .gp es b lo n => (pblk B b).bind fun p => if p.1 = es ∧ lo + n ≤ p.2.length then some (.vs 0 es ((p.2.drop lo).take n)) else none
 | d + 1, .fn f p c => (PV.resL B d p).bind fun p => (PV.resL B d c).map fun c => .fn f p c
 | d + 1, .fc t v => (PV.res B d v).map (.fc t)
 | d + 1, .ag l => (PV.resL B d l).map .ag
 | d + 1, .tu l => (PV.resL B d l).map .tu
 | _ + 1, .bo x => some (.bo x)
 | _ + 1, .it k n => some (.it k n)
 | _ + 1, .st x => some (.st x)
 | _ + 1, .np => some .np
 | _ + 1, .nf => some .nf
 | _ + 1, .ni => some .ni
 | _ + 1, .sn => some .sn
 | _ + 1, .dd => some .dd
 | _ + 1, .vs w es l => some (.vs w es l)
 | _ + 1, .pe l o => some (.pe l o)
def PV.resL (B : List PB) : Nat → List PV → Option (List PV)
 | _, [] => some []
 | 0, _ :: _ => none
 | d + 1, v :: r => (PV.res B d v).bind fun v => (PV.resL B (d + 1) r).map (v :: ·)
end
end
end Go.AX
end
section
namespace Go.AX
open Go
section
variable {L L' : Lk} {H H' : AH} {B B' : List PB} {E : Nat → PV} {Ea : Env}
theorem Rc_w {F : Nat → Prop} {w w' es : Nat} {l : List PV} {a : AV} (h : Rc F H (.vs w es l) a) (hw : w' ≤ w) : Rc F H (.vs w' es l) a := ⟨h.1, fun h1 => h.2.1 (by omega), fun h1 => h.2.2 (by omega)⟩
theorem GsX.vs {F F0 : Nat → Prop} {es : Nat} {l : List PV} {a : AV} {X : Nat} (h : GsX F H es l a X) (hF : ∀ X, F X → F0 X) (hX : F0 X) : Rc F0 H (.vs 1 es l) a := by
 have s : Stay F H F0 H := ⟨Nat.le_refl _, hF, fun _ _ => rfl⟩
 obtain ⟨cs, h1, h2⟩ := h.sl
 refine ⟨⟨cs, h1, fun b hb => ?_, RcE.mono s _ _ h2⟩, fun _ b o q n e he => ?_, fun h => by omega⟩
 ·rw [h.bk] at hb; simp only [Option.some.injEq] at hb; subst hb; exact hX
 ·obtain ⟨_, _, _, _, _, ⟨h5, _⟩ | ⟨_, _, h5, _⟩⟩ := h
  ·rw [h5] at he; simp only [AV.sg.injEq] at he
   obtain ⟨_, h6, h7, _⟩ := he
   omega
  ·rw [h5] at he; cases he
theorem bk_vs (h : HR L H B) {b es : Nat} {l : List PV} {F0 : Nat → Prop} (hF : ∀ X, L.F X → F0 X) (hO : ∀ X, Ow L B X → F0 X) (hb : (∃ w, B[b]? = some (.gs w es l)) ∨ B[b]? = some (.fz es l)) : Rc F0 H (.vs 1 es l) (L.m b) := by
 have s : Stay L.F H F0 H := ⟨Nat.le_refl _, hF, fun _ _ => rfl⟩
 rcases hb with ⟨w, hb⟩ | hb
 ·obtain ⟨⟨h1, _⟩ | ⟨X, h0, h1⟩, _⟩ := h.bk _ _ hb
  ·exact Rc_w (Rc.mono s _ h1) (by omega)
  ·exact h1.vs hF (hO X ⟨b, _, hb, rfl, h1.bk, h0⟩)
 ·obtain ⟨⟨h1, _⟩ | ⟨X, h0, h1⟩, _⟩ := h.bk _ _ hb
  ·exact Rc_w (Rc.mono s _ h1) (by omega)
  ·exact h1.vs hF (hF X h0)
theorem pblk_bk (h : HR L H B) {b es X : Nat} {l : List PV} {F0 : Nat → Prop} (hF : ∀ X, L.F X → F0 X) (hO : ∀ X, Ow L B X → F0 X) (hb : pblk B b = some (es, l)) (hX : (L.m b).bk = some X) : F0 X := by
 have hv : Rc F0 H (.vs 1 es l) (L.m b) := by
  unfold pblk at hb
  split at hb
  ·rename_i he
   simp only [Option.some.injEq, Prod.mk.injEq] at hb
   obtain ⟨rfl, rfl⟩ := hb
   exact bk_vs h hF hO (.inl ⟨_, he⟩)
  ·rename_i he
   simp only [Option.some.injEq, Prod.mk.injEq] at hb
   obtain ⟨rfl, rfl⟩ := hb
   exact bk_vs h hF hO (.inr he)
  ·cases hb
 obtain ⟨⟨_, _, h2, _⟩, _⟩ := hv
 exact h2 X hX
theorem gp_vs (h : HR L H B) {b es lo n : Nat} {l : List PV} {a : AV} {F0 : Nat → Prop} (hF : ∀ X, L.F X → F0 X) (hO : ∀ X, Ow L B X → F0 X) (hb : pblk B b = some (es, l)) (hv : gpR L.F H es (L.m b) lo n a) (hle : lo + n ≤ l.length) :
  Rc F0 H (.vs 0 es ((l.drop lo).take n)) a := by
 have s : Stay L.F H F0 H := ⟨Nat.le_refl _, hF, fun _ _ => rfl⟩
 have hlen : ((l.drop lo).take n).length = n := by simp; omega
 rcases hv with ⟨rfl, hv⟩ | ⟨X, hX, hv⟩
 ·have : (l.drop lo).take 0 = [] := by simp
  rw [this]
  exact Rc.mono s _ hv
 ·have hFX := pblk_bk h hF hO hb hX
  have hbk : ∀ {a' : AV}, a'.bk = some X → slF F0 a' := fun ha b hb => by rw [ha] at hb; simp only [Option.some.injEq] at hb; subst hb; exact hFX
  rcases pblk_ok h hb with ⟨hr, hnil⟩ | ⟨X', h1⟩
  ·subst hnil
   simp only [List.length_nil] at hle
   obtain rfl : n = 0 := by omega
   obtain rfl : lo = 0 := by omega
   have he : ((([] : List PV).drop 0).take 0) = [] := rfl
   rw [he]
   obtain ⟨⟨cs, g1, g2, g3⟩, g4, g5⟩ := hr
   rcases hv with ⟨o, c, rfl, h3, h4⟩ | ⟨o, q, n0, rfl, h3, h4, h5⟩
   ·have : o = 0 := by omega
    subst this
    have hlt : X < H.nx := by
     rcases g5 (Nat.le_refl _) with g5 | ⟨Y, o, g5⟩
     ·rw [g5] at hX; cases hX
     ·rw [g5] at g1 hX
      simp only [AV.bk, Option.some.injEq] at hX; subst hX
      simp only [List.length_nil] at g1
      cases g1 with
      | sl k1 => exact k1
    exact ⟨⟨[], .sl hlt (fun i v hi => by simp at hi) (by simp) (by simp) h3, hbk rfl, rfl⟩, (by intro hw; omega), (by intro hw; omega)⟩
   ·exfalso
    rcases g5 (Nat.le_refl _) with g5 | ⟨Y, o, g5⟩ <;> (rw [g5] at h5; cases h5)
  ·have hX' := h1.bk
   rw [hX] at hX'
   simp only [Option.some.injEq] at hX'; subst hX'
   obtain ⟨cs, sp, g1, g2, g3, g4⟩ := h1
   have hcl := g3.len
   have hmul : lo * es + n * es ≤ cs.length := by rw [hcl, ← Nat.add_mul]; exact Nat.mul_le_mul_right _ hle
   have hrd := Rd.of g2 (lo * es) (n * es) hmul
   have hclen : ((cs.drop (lo * es)).take (n * es)).length = n * es := by simp; omega
   have hE : RcE F0 H es ((l.drop lo).take n) ((cs.drop (lo * es)).take (n * es)) := RcE.mono s _ _ ((g3.drop lo).take n)
   rcases hv with ⟨o, c, rfl, h3, h4⟩ | ⟨o, q, n0, rfl, h3, h4, h5⟩
   ·rcases h4 with ⟨rfl, h4⟩ | h4
    ·have : (l.drop lo).take 0 = [] := by simp
     rw [this]
     exact ⟨⟨[], .sl g1 (fun i v hi => by simp at hi) (by rw [g2]; simp [Blk.cells]; omega) (by simp) h3, hbk rfl, rfl⟩, (by intro hw; omega), (by intro hw; omega)⟩
    ·subst h4
     exact ⟨⟨_, by rw [hlen]; exact .sl g1 hrd.1 hrd.2 hclen h3, hbk rfl, hE⟩, (by intro hw; omega), (by intro hw; omega)⟩
   ·subst h4
    exact ⟨⟨_, by rw [hlen]; exact .sg g1 hrd.1 hrd.2 (by rw [g2]; rfl) hclen h3, hbk rfl, hE⟩, (by intro hw; omega), (by intro hw; omega)⟩
theorem res_ok (h : HR L H B) {F0 : Nat → Prop} (hF : ∀ X, L.F X → F0 X) (hO : ∀ X, Ow L B X → F0 X) : ∀ (d : Nat), (∀ (v : PV) {a : AV} {v' : PV}, Rp L H v a → v.res B d = some v' → Rc F0 H v' a) ∧ (∀ (l : List PV) {as : List AV} {l' : List PV}, RpL L H l as → PV.resL B d l = some l' → RcL F0 H l' as) := by
 have s : Stay L.F H F0 H := ⟨Nat.le_refl _, hF, fun _ _ => rfl⟩
 intro d
 induction d with
 | zero =>
  refine ⟨fun v a v' hv hr => ?_, fun l as l' hl hr => ?_⟩
  ·cases v <;> simp only [PV.res, reduceCtorEq, Option.some.injEq] at hr <;> subst hr <;> exact hv
  ·cases l with
   | nil => simp only [PV.resL, Option.some.injEq] at hr; subst hr; exact hl
   | cons => simp only [PV.resL, reduceCtorEq] at hr
 | succ d ih =>
  obtain ⟨ihv, ihl⟩ := ih
  have step : ∀ (v : PV) {a : AV} {v' : PV}, Rp L H v a → v.res B (d + 1) = some v' → Rc F0 H v' a := by
   intro v a v' hv hr
   cases v with
   | pt b o =>
    obtain ⟨h0, X, hm, rfl⟩ := hv
    simp only [PV.res] at hr
    split at hr
    ·rename_i l he
     simp only [Option.some.injEq] at hr; subst hr
     obtain ⟨⟨X', q, cs, h1, h2, h3, h4⟩, _⟩ := h.bk _ _ he
     rw [hm] at h1
     simp only [AV.pt.injEq] at h1
     obtain ⟨rfl, h1⟩ := h1
     obtain rfl : q = 0 := by omega
     exact ⟨X, 0, cs, by rw [Nat.zero_add], hF X h2, h3, RcL.mono s _ h4⟩
    ·rename_i l he
     obtain ⟨l', hl', rfl⟩ := Option.map_eq_some_iff.1 hr
     obtain ⟨X', cs, h1, h2, h3, h4, h5⟩ := h.bk _ _ he
     have hX : (L.m b).bk = some X := by rw [hm]; rfl
     rw [hm] at h1
     simp only [AV.pt.injEq, and_true] at h1; subst h1
     exact ⟨X, 0, cs, by rw [Nat.zero_add], hO X ⟨b, _, he, rfl, hX, h3⟩, ⟨fun i v hi => by rw [h4, Nat.zero_add]; exact hi, by rw [h4]; simp [Blk.cells]⟩, ihl _ h5 hl'⟩
    ·cases hr
   | pg es b i o =>
    obtain ⟨h0, X, hX, rfl⟩ := hv
    simp only [PV.res, Option.bind_eq_some_iff] at hr
    obtain ⟨⟨es', l'⟩, hb, hr⟩ := hr
    split at hr
    ·rename_i he
     simp only at he; subst he
     simp only [Option.bind_eq_some_iff] at hr
     obtain ⟨e, he, c, hcl, hr⟩ := hr
     split at hr
     ·rename_i hlen
      simp only [Option.some.injEq] at hr; subst hr
      have hFX := pblk_bk h hF hO hb hX
      rcases pblk_ok h hb with ⟨_, h1⟩ | ⟨X', h1⟩
      ·rw [h1] at he; simp at he
      ·have hX' := h1.bk
       rw [hX] at hX'
       simp only [Option.some.injEq] at hX'; subst hX'
       obtain ⟨cs, sp, h2, h3, h4, _⟩ := h1
       obtain ⟨a, r1, r2, r3, r4⟩ := h4.elt he
       obtain ⟨c', hc', hr⟩ := r1.cl hcl
       rw [r2] at hc'
       simp only [Option.some.injEq] at hc'; subst hc'
       exact ⟨X, i * es', _, rfl, hFX, Rd.of h3 _ _ (by omega), RcL.mono s _ hr⟩
     ·cases hr
    ·cases hr
   | gr b =>
    obtain ⟨h0, rfl, _⟩ := hv
    simp only [PV.res] at hr
    split at hr
    ·rename_i he
     simp only [Option.some.injEq] at hr; subst hr
     exact bk_vs h hF hO (.inl ⟨_, he⟩)
    ·rename_i he
     simp only [Option.some.injEq] at hr; subst hr
     exact bk_vs h hF hO (.inr he)
    ·cases hr
   | gp es b lo n =>
    obtain ⟨h0, hv⟩ := hv
    simp only [PV.res, Option.bind_eq_some_iff] at hr
    obtain ⟨⟨es', l'⟩, hb, hr⟩ := hr
    split at hr
    ·rename_i hcnd
     obtain ⟨he, hle⟩ := hcnd
     simp only at he; subst he
     simp only [Option.some.injEq] at hr; subst hr
     exact gp_vs h hF hO hb hv hle
    ·cases hr
   | fn f p c =>
    obtain ⟨p', c', rfl, h2, h3⟩ := hv
    simp only [PV.res, Option.bind_eq_some_iff, Option.map_eq_some_iff] at hr
    obtain ⟨q, hq, u, hu, rfl⟩ := hr
    exact ⟨_, _, rfl, ihl _ h2 hq, ihl _ h3 hu⟩
   | fc t v =>
    obtain ⟨w, rfl, h2⟩ := hv
    simp only [PV.res, Option.map_eq_some_iff] at hr
    obtain ⟨u, hu, rfl⟩ := hr
    exact ⟨_, rfl, ihv _ h2 hu⟩
   | ag l =>
    obtain ⟨w, rfl, h2⟩ := hv
    simp only [PV.res, Option.map_eq_some_iff] at hr
    obtain ⟨u, hu, rfl⟩ := hr
    exact ⟨_, rfl, ihl _ h2 hu⟩
   | tu l =>
    obtain ⟨w, rfl, h2⟩ := hv
    simp only [PV.res, Option.map_eq_some_iff] at hr
    obtain ⟨u, hu, rfl⟩ := hr
    exact ⟨_, rfl, ihl _ h2 hu⟩
   | dd => simp only [PV.res, Option.some.injEq] at hr; subst hr; trivial
   | vs w es l => simp only [PV.res, Option.some.injEq] at hr; subst hr; exact Rc.mono s _ hv
   | pe l o => simp only [PV.res, Option.some.injEq] at hr; subst hr; exact Rc.mono s _ hv
   | _ => simp only [PV.res, Option.some.injEq] at hr; subst hr; exact hv
  refine ⟨step, fun l => ?_⟩
  induction l with
  | nil => intro as l' hl hr; simp only [PV.resL, Option.some.injEq] at hr; subst hr; exact hl
  | cons v r ihr =>
   rintro as l' ⟨a, as', rfl, h1, h2⟩ hr
   simp only [PV.resL, Option.bind_eq_some_iff, Option.map_eq_some_iff] at hr
   obtain ⟨u, hu, r', hr', rfl⟩ := hr
   exact ⟨a, as', rfl, ihv v h1 hu, ihr h2 hr'⟩
def PCallG (C : List AV → AH → AV → AH → Prop) (B : List PB) (args : List PV) (B' : List PB) (v : PV) (T : List Nat) : Prop :=
 ∀ L H avs, HR L H B → RpL L H args avs → ∃ a H' L', C avs H a H' ∧ Ev L H B L' H' B' ∧ HR L' H' B' ∧ Rp L' H' v a ∧ ∀ X, X < H.nx → (∀ b ∈ T, b < L.n → (L.m b).bk ≠ some X) → H'.g X = H.g X
abbrev RetC (P : Program) (f : FuncId) : List AV → AH → AV → AH → Prop := fun avs H a H' => CallT P f avs H (.ret a) H'
abbrev PanC (P : Program) (f : FuncId) : List AV → AH → AV → AH → Prop := fun avs H a H' => CallT P f avs H (.pan [⟨a, false⟩]) H'
abbrev PCall (P : Program) (f : FuncId) (B : List PB) (args : List PV) (B' : List PB) (v : PV) (T : List Nat) : Prop := PCallG (RetC P f) B args B' v T
def Pu (P : Program) (f : FuncId) (args : List PV) (B' : List PB) (v : PV) : Prop := PCall P f [] args B' v []
mutual
def PV.flat : PV → Bool
 | .bo _ | .it _ _ | .st _ | .np | .nf | .ni | .sn | .dd => true
 | .ag l => PV.flatL l
 | .tu l => PV.flatL l
 | .fc _ v => v.flat
 | _ => false
def PV.flatL : List PV → Bool
 | [] => true
 | v :: l => v.flat && PV.flatL l
end
mutual
theorem Rp_flat : ∀ (v : PV) {a : AV}, v.flat = true → Rp L H v a → Rp L' H' v a
 | .bo _, _, _, h | .it _ _, _, _, h | .st _, _, _, h | .np, _, _, h | .nf, _, _, h | .ni, _, _, h | .sn, _, _, h => h
 | .dd, _, _, _ => trivial
 | .ag l, _, hf, ⟨l', h1, h2⟩ => by
  simp only [PV.flat] at hf
  exact ⟨l', h1, RpL_flat l hf h2⟩
 | .fc t v, _, hf, ⟨v', h1, h2⟩ => by
  simp only [PV.flat] at hf
  exact ⟨v', h1, Rp_flat v hf h2⟩
 | .tu l, _, hf, ⟨l', h1, h2⟩ => by
  simp only [PV.flat] at hf
  exact ⟨l', h1, RpL_flat l hf h2⟩
 | .vs _ _ _, _, hf, _ | .pe _ _, _, hf, _ | .pt _ _, _, hf, _ | .pg _ _ _ _, _, hf, _ | .gr _, _, hf, _ | .gp _ _ _ _, _, hf, _ | .fn _ _ _, _, hf, _ => by simp [PV.flat] at hf
theorem RpL_flat : ∀ (l : List PV) {as : List AV}, PV.flatL l = true → RpL L H l as → RpL L' H' l as
 | [], _, _, h => h
 | v :: r, _, hf, ⟨a, l', h1, h2, h3⟩ => by
  simp only [PV.flatL, Bool.and_eq_true] at hf
  exact ⟨a, l', h1, Rp_flat v hf.1 h2, RpL_flat r hf.2 h3⟩
end
theorem HR_nil {F : Nat → Prop} {m : Nat → AV} (hF : ∀ X, F X → X < H.nx) (hw : ∀ X, H.nx ≤ X → H.g X = .no) : HR ⟨0, m, F⟩ H [] := ⟨rfl, hF, hw, fun b p h => by simp at h, fun b b' p p' X h => by simp at h⟩
def PB.froz : PB → Bool
 | .fv _ => true
 | .fz _ _ => true
 | _ => false
def offB (B : List PB) : List PB := B.map fun p => if p.froz then p else .no
end
end Go.AX
end
section
namespace Go.AX
open Go
abbrev PE0 := Nat → PV
def PE0.st (E : PE0) (d : Nat) (v : PV) : PE0 := fun i => if i = d then v else E i
def PE0.put (E : PE0) : Option Nat → PV → PE0
 | some d, v => E.st d v
 | none, _ => E
theorem ER_put {L : Lk} {H : AH} {E : PE0} {Ea : Env} {d : Option Nat} {v : PV} {a : AV} (h : ER L H E Ea) (hv : Rp L H v a) : ER L H (E.put d v) (Ea.put d a) := by
 cases d with
 | none => exact h
 | some d =>
  intro t
  simp only [PE0.put, PE0.st, Env.put, Env.st]
  split
  ·exact hv
  ·exact h t
theorem ER.mono {L L' : Lk} {H H' : AH} {E : PE0} {Ea : Env} (h : ER L H E Ea) (k : Keep L H L' H') : ER L' H' E Ea := fun t => Rp.mono k _ (h t)
structure Fw (K : Nat) (L : Lk) (H : AH) (B : List PB) (L' : Lk) (H' : AH) (B' : List PB) : Prop where
 st : Stay L.F H L'.F H'
 m : ∀ b, b < K → L'.m b = L.m b
 fr : ∀ X, X < H.nx → ¬ L.F X → ¬ Ow L B X → H'.g X = H.g X
 fF : ∀ X, L'.F X → L.F X ∨ Ow L B X ∨ H.nx ≤ X
 fO : ∀ X, Ow L' B' X → Ow L B X ∨ H.nx ≤ X
theorem Fw.refl {K : Nat} {L : Lk} {H : AH} {B : List PB} : Fw K L H B L H B := ⟨.refl, fun _ _ => rfl, fun _ _ _ _ => rfl, fun _ h => .inl h, fun _ h => .inl h⟩
theorem Fw.trans {K : Nat} {L L1 L2 : Lk} {H H1 H2 : AH} {B B1 B2 : List PB} (a : Fw K L H B L1 H1 B1) (b : Fw K L1 H1 B1 L2 H2 B2) : Fw K L H B L2 H2 B2 := by
 have hn := a.st.nx
 refine ⟨a.st.trans b.st, fun x hx => (b.m x hx).trans (a.m x hx), fun X h1 h2 h3 => ?_, fun X h => ?_, fun X h => ?_⟩
 ·rw [b.fr X (Nat.lt_of_lt_of_le h1 hn) (fun h => ?_) (fun h => ?_)]
  ·exact a.fr X h1 h2 h3
  ·rcases a.fF X h with h | h | h
   ·exact h2 h
   ·exact h3 h
   ·omega
  ·rcases a.fO X h with h | h
   ·exact h3 h
   ·omega
 ·rcases b.fF X h with h | h | h
  ·exact a.fF X h
  ·exact .inr (a.fO X h)
  ·exact .inr (.inr (Nat.le_trans hn h))
 ·rcases b.fO X h with h | h
  ·exact a.fO X h
  ·exact .inr (Nat.le_trans hn h)
theorem Ev.fw {K : Nat} {L L' : Lk} {H H' : AH} {B B' : List PB} (h : Ev L H B L' H' B') (hK : K ≤ L.n) : Fw K L H B L' H' B' := ⟨h.k.st, fun b hb => h.k.m b (by omega), h.fr, h.fF, h.fO⟩
structure PEnd where
 r : Option PV → PE0 → List PB → Prop
 ds : List ADef
 fl : Bool
instance : CoeFun PEnd fun _ => Option PV → PE0 → List PB → Prop := ⟨PEnd.r⟩
structure FinC (P : Program) (fl : Bool) where
 fin : Fin
 dc : fl = true → ∀ out E H d H', EndD P out d H H' → fin .ret E H' [] → fin out E H [d]
instance {P : Program} {fl : Bool} : CoeFun (FinC P fl) fun _ => BOut → Env → AH → List ADef → Prop := ⟨FinC.fin⟩
instance {P : Program} {fl : Bool} : CoeOut (FinC P fl) Fin := ⟨FinC.fin⟩
def Y (P : Program) (K : Nat) (R : PEnd) (k : List It) (E : PE0) (B : List PB) : Prop :=
 ∀ L0 H0 B0 (Rx : FinC P R.fl), (∀ L H E' B' Ea, Fw K L0 H0 B0 L H B' → K ≤ L.n → HR L H B' → ER L H E' Ea → R none E' B' → Rx .ret Ea H R.ds) →
  (∀ L H E' B' Ea v a, Fw K L0 H0 B0 L H B' → K ≤ L.n → HR L H B' → ER L H E' Ea → Rp L H v a → R (some v) E' B' → Rx (.pan [⟨a, false⟩]) Ea H R.ds) →
  ∀ L H Ea, Fw K L0 H0 B0 L H B → K ≤ L.n → HR L H B → ER L H E Ea → X P Rx k Ea H R.ds
section
variable {P : Program} {K : Nat} {R : PEnd} {k : List It} {E : PE0} {B : List PB}
theorem Y_same {k' : List It} (h : ∀ (Rx : Fin) Ea H ds, X P Rx k Ea H ds = X P Rx k' Ea H ds) (hy : Y P K R k' E B) : Y P K R k E B := fun L0 H0 B0 Rx r1 r2 L H Ea f hK hR hE => by
 rw [h]; exact hy L0 H0 B0 Rx r1 r2 L H Ea f hK hR hE
theorem X_exit {R : Fin} {i : Nat} {k k' : List It} {E : Env} {H : AH} {ds : List ADef} (h : itExit i k = some k') (hx : X P R k' E H ds) : X P R (.c (.exit i) :: k) E H ds := by
 obtain ⟨n, hx⟩ := hx
 exact ⟨n + 1, by simp only [XF]; exact ⟨k', h, hx⟩⟩
theorem X_pan {R : Fin} {d : Option Nat} {x : Opd} {l : List ROper} {E : Env} {H : AH} {ds : List ADef} {t : TypeId} {v : AV} (h : ev E x = .fc t v) (hr : R (.pan [⟨.fc t v, false⟩]) E H ds) : X P R (.o (⟨d, none, .pan x⟩ :: l) :: k) E H ds := by
 refine ⟨1, ?_⟩
 simp only [XF, gwant, Option.some.injEq, exists_eq_left', if_true]
 exact ⟨t, v, h, hr⟩
theorem Y_op {d : Option Nat} {vo : VOp} {l : List ROper} {v : PV} {B' : List PB} (h : pop vo E B = some (v, B')) (hy : Y P K R (.o l :: k) (E.put d v) B') : Y P K R (.o (⟨d, none, .v vo⟩ :: l) :: k) E B := by
 intro L0 H0 B0 Rx r1 r2 L H Ea f hK hR hE
 obtain ⟨c, H', L', d'⟩ := pop_ok hR hE h
 rw [X_ov, d'.eq, AtV_some]
 exact hy L0 H0 B0 Rx r1 r2 L' H' _ (f.trans (d'.ev.fw hK)) (Nat.le_trans hK d'.ev.k.n) d'.hr (ER_put (hE.mono d'.ev.k) d'.rp)
theorem Y_call {d : Option Nat} {f : FuncId} {args : List Opd} {l : List ROper} {v : PV} {B' : List PB} {T : List Nat} (h : PCall P f B (args.map (pev E)) B' v T) (hy : Y P K R (.o l :: k) (E.put d v) B') : Y P K R (.o (⟨d, none, .call f args⟩ :: l) :: k) E B := by
 intro L0 H0 B0 Rx r1 r2 L H Ea fw hK hR hE
 obtain ⟨a, H', L', h1, h2, h3, h4, _⟩ := h L H _ hR (RpL_map hE args)
 rw [X_oc]
 exact ⟨_, H', h1, hy L0 H0 B0 Rx r1 r2 L' H' _ (fw.trans (h2.fw hK)) (Nat.le_trans hK h2.k.n) h3 (ER_put (hE.mono h2.k) h4)⟩
def Bd (P : Program) (f : FuncId) : Prop := ∃ fn, P.funcs[f]? = some fn ∧ (fn.body.isSome && !(fn.name == "runtime.NumGoroutine")) = true
theorem X_calv {R : Fin} {d : Option Nat} {x : Opd} {args : List Opd} {l : List ROper} {E : Env} {H H' : AH} {ds : List ADef} {f : FuncId} {as : List AV} {v : AV} (hf : funOf (vals E args) (ev E x) = some (f, as)) (hb : Bd P f) (hc : CallT P f as H (.ret v) H')
  (hx : X P R (.o l :: k) (E.put d v) H' ds) : X P R (.o (⟨d, none, .calv x args⟩ :: l) :: k) E H ds := by
 obtain ⟨n, hx⟩ := hx
 refine ⟨n + 1, ?_⟩
 simp only [XF, gwant, Option.some.injEq, exists_eq_left', if_true]
 exact ⟨f, as, hf, hb, _, H', hc, hx⟩
theorem Y_calv {d : Option Nat} {x : Opd} {f : FuncId} {pa ca : List PV} {args : List Opd} {l : List ROper} {v : PV} {B' : List PB} {T : List Nat} (hx : pev E x = .fn (.func f) pa ca) (hb : Bd P f) (h : PCall P f B (pa ++ args.map (pev E) ++ ca) B' v T) (hy : Y P K R (.o l :: k) (E.put d v) B') :
  Y P K R (.o (⟨d, none, .calv x args⟩ :: l) :: k) E B := by
 intro L0 H0 B0 Rx r1 r2 L H Ea fw hK hR hE
 have hr := Rp_ev hE x
 rw [hx] at hr
 obtain ⟨p', c', h5, h6, h7⟩ := hr
 obtain ⟨a, H', L', h1, h2, h3, h4, _⟩ := h L H (p' ++ vals Ea args ++ c') hR ((h6.app (RpL_map hE args)).app h7)
 exact X_calv (by rw [h5]; rfl) hb h1 (hy L0 H0 B0 Rx r1 r2 L' H' _ (fw.trans (h2.fw hK)) (Nat.le_trans hK h2.k.n) h3 (ER_put (hE.mono h2.k) h4))
theorem Y_grd {d : Option Nat} {t : Nat} {b c : Bool} {o : ROp} {l : List ROper} (ht : E t = .bo c) (h1 : c = b → Y P K R (.o (⟨d, none, o⟩ :: l) :: k) E B) (h2 : c ≠ b → Y P K R (.o l :: k) (E.put d (.tu [])) B) : Y P K R (.o (⟨d, some (t, b), o⟩ :: l) :: k) E B := by
 intro L0 H0 B0 Rx r1 r2 L H Ea fw hK hR hE
 have hr := hE t
 rw [ht] at hr
 simp only [Rp] at hr
 refine X_og ⟨c, hr, ?_⟩
 by_cases hc : c = b
 ·rw [if_pos hc]; exact h1 hc L0 H0 B0 Rx r1 r2 L H Ea fw hK hR hE
 ·rw [if_neg hc]; exact h2 hc L0 H0 B0 Rx r1 r2 L H _ fw hK hR (ER_put hE ⟨[], rfl, rfl⟩)
theorem Y_grt {d : Option Nat} {t : Nat} {b : Bool} {o : ROp} {l : List ROper} (ht : E t = .tu []) (h2 : Y P K R (.o l :: k) (E.put d (.tu [])) B) : Y P K R (.o (⟨d, some (t, b), o⟩ :: l) :: k) E B := by
 intro L0 H0 B0 Rx r1 r2 L H Ea fw hK hR hE
 have hr := hE t
 rw [ht] at hr
 obtain ⟨l', hr, h0⟩ := hr
 simp only [RpL] at h0; subst h0
 exact X_ogt hr (h2 L0 H0 B0 Rx r1 r2 L H _ fw hK hR (ER_put hE ⟨[], rfl, rfl⟩))
theorem Y_cnd {c : Opd} {a b : RC} {t : Bool} (ht : pev E c = .bo t) (h1 : t = true → Y P K R (.c a :: k) E B) (h2 : t = false → Y P K R (.c b :: k) E B) : Y P K R (.c (.cond c a b) :: k) E B := by
 intro L0 H0 B0 Rx r1 r2 L H Ea fw hK hR hE
 have hr := Rp_ev hE c
 rw [ht] at hr
 simp only [Rp] at hr
 rw [X_cond, hr]
 cases t
 ·rw [AtB_f]; exact h2 rfl L0 H0 B0 Rx r1 r2 L H Ea fw hK hR hE
 ·rw [AtB_t]; exact h1 rfl L0 H0 B0 Rx r1 r2 L H Ea fw hK hR hE
theorem Y_ret (h : R none E B) : Y P K R (.c .ret :: k) E B := fun L0 H0 B0 Rx r1 r2 L H Ea fw hK hR hE => by rw [X_ret]; exact r1 L H E B Ea fw hK hR hE h
theorem Y_nil (h : R none E B) : Y P K R [] E B := fun L0 H0 B0 Rx r1 r2 L H Ea fw hK hR hE => by rw [X_nil]; exact r1 L H E B Ea fw hK hR hE h
theorem Y_pan {d : Option Nat} {x : Opd} {l : List ROper} {t : TypeId} {v : PV} (hx : pev E x = .fc t v) (h : R (some (.fc t v)) E B) : Y P K R (.o (⟨d, none, .pan x⟩ :: l) :: k) E B := by
 intro L0 H0 B0 Rx r1 r2 L H Ea fw hK hR hE
 have hr := Rp_ev hE x
 rw [hx] at hr
 have hr' := hr
 obtain ⟨a, h5, h6⟩ := hr
 rw [h5] at hr'
 exact X_pan h5 (r2 L H E B Ea _ _ fw hK hR hE hr' h)
theorem Y_exit {i : Nat} {k' : List It} (h : itExit i k = some k') (hy : Y P K R k' E B) : Y P K R (.c (.exit i) :: k) E B := fun L0 H0 B0 Rx r1 r2 L H Ea fw hK hR hE => X_exit h (hy L0 H0 B0 Rx r1 r2 L H Ea fw hK hR hE)
abbrev Zn := List It → PE0 → List PB → Prop
def ZB (z : Zn) (v : PV) (a b : RC) (k : List It) (E : PE0) (B : List PB) : Prop := match v with | .bo true => z (.c a :: k) E B | .bo false => z (.c b :: k) E B | _ => False
def ZV (z : Zn) (r : Option (PV × List PB)) (d : Option Nat) (l : List ROper) (k : List It) (E : PE0) : Prop := match r with | some (v, B') => z (.o l :: k) (E.put d v) B' | none => False
def ZX (z : Zn) (r : Option (List It)) (E : PE0) (B : List PB) : Prop := match r with | some k => z k E B | none => False
def ZP (R : PEnd) (v : PV) (E : PE0) (B : List PB) : Prop := match v with | .fc t u => R (some (.fc t u)) E B | _ => False
def ZO (P : Program) (K : Nat) (R : PEnd) (z : Zn) (d : Option Nat) (l : List ROper) (k : List It) (E : PE0) (B : List PB) : ROp → Prop
 | .v vo => ZV z (pop vo E B) d l k E
 | .pan x => ZP R (pev E x) E B
 | o => Y P K R (.o (⟨d, none, o⟩ :: l) :: k) E B
def ZG (P : Program) (K : Nat) (R : PEnd) (z : Zn) (v : PV) (b : Bool) (d : Option Nat) (o : ROp) (l : List ROper) (k : List It) (E : PE0) (B : List PB) : Prop :=
 match v with
 | .bo c => if c = b then ZO P K R z d l k E B o else z (.o l :: k) (E.put d (.tu [])) B
 | .tu [] => z (.o l :: k) (E.put d (.tu [])) B
 | _ => False
def Z (P : Program) (K : Nat) (R : PEnd) : Nat → List It → PE0 → List PB → Prop
 | 0, k, E, B => Y P K R k E B
 | n + 1, [], E, B => R none E B
 | n + 1, .blk _ :: k, E, B => Z P K R n k E B
 | n + 1, .lp c :: k, E, B => Y P K R (.lp c :: k) E B
 | n + 1, .o [] :: k, E, B => Z P K R n k E B
 | n + 1, .o (⟨d, none, o⟩ :: l) :: k, E, B => ZO P K R (Z P K R n) d l k E B o
 | n + 1, .o (⟨d, some (t, b), o⟩ :: l) :: k, E, B => ZG P K R (Z P K R n) (E t) b d o l k E B
 | n + 1, .c .skip :: k, E, B => Z P K R n k E B
 | n + 1, .c (.reg l) :: k, E, B => Z P K R n (.o l :: k) E B
 | n + 1, .c (.regd L) :: k, E, B => Y P K R (.c (.regd L) :: k) E B
 | n + 1, .c (.seq a b) :: k, E, B => Z P K R n (.c a :: .c b :: k) E B
 | n + 1, .c (.cond c a b) :: k, E, B => ZB (Z P K R n) (pev E c) a b k E B
 | n + 1, .c (.block i a) :: k, E, B => Z P K R n (.c a :: .blk i :: k) E B
 | n + 1, .c (.loop a) :: k, E, B => Y P K R (.c (.loop a) :: k) E B
 | n + 1, .c (.exit i) :: k, E, B => ZX (Z P K R n) (itExit i k) E B
 | n + 1, .c .ret :: k, E, B => R none E B
theorem ZO_Y {z : Zn} {l : List ROper} {d : Option Nat} {o : ROp} (hq : ∀ k E B, z k E B → Y P K R k E B) (h : ZO P K R z d l k E B o) : Y P K R (.o (⟨d, none, o⟩ :: l) :: k) E B := by
 unfold ZO at h
 split at h
 ·unfold ZV at h
  split at h
  ·rename_i v B' he
   exact Y_op he (hq _ _ _ h)
  ·exact h.elim
 ·unfold ZP at h
  split at h
  ·rename_i t u he
   exact Y_pan he h
  ·exact h.elim
 ·exact h
theorem Y_go : ∀ (n : Nat) {k : List It} {E : PE0} {B : List PB}, Z P K R n k E B → Y P K R k E B := by
 intro n
 induction n with
 | zero => intro k E B h; exact h
 | succ n ih =>
  intro k E B h
  match k, h with
  | [], h => exact Y_nil h
  | .blk _ :: k, h => exact Y_same (fun Rx Ea H _ => X_blk) (ih h)
  | .lp c :: k, h => exact h
  | .o [] :: k, h => exact Y_same (fun Rx Ea H _ => X_onil) (ih h)
  | .o (⟨d, none, o⟩ :: l) :: k, h => exact ZO_Y (fun _ _ _ => ih) h
  | .o (⟨d, some (t, b), o⟩ :: l) :: k, h =>
   unfold Z ZG at h
   split at h
   ·rename_i c hc
    refine Y_grd hc (fun e => ?_) (fun e => ?_)
    ·rw [if_pos e] at h; exact ZO_Y (fun _ _ _ => ih) h
    ·rw [if_neg e] at h; exact ih h
   ·rename_i hc; exact Y_grt hc (ih h)
   ·exact h.elim
  | .c .skip :: k, h => exact Y_same (fun Rx Ea H _ => X_skip) (ih h)
  | .c (.reg l) :: k, h => exact Y_same (fun Rx Ea H _ => X_reg) (ih h)
  | .c (.regd L) :: k, h => exact h
  | .c (.seq a b) :: k, h => exact Y_same (fun Rx Ea H _ => X_seq) (ih h)
  | .c (.cond c a b) :: k, h =>
   unfold Z ZB at h
   split at h
   ·rename_i hc; exact Y_cnd hc (fun _ => ih h) (fun e => by cases e)
   ·rename_i hc; exact Y_cnd hc (fun e => by cases e) (fun _ => ih h)
   ·exact h.elim
  | .c (.block i a) :: k, h => exact Y_same (fun Rx Ea H _ => X_block) (ih h)
  | .c (.loop a) :: k, h => exact h
  | .c (.exit i) :: k, h =>
   unfold Z ZX at h
   split at h
   ·rename_i k' he; exact Y_exit he (ih h)
   ·exact h.elim
  | .c .ret :: k, h => exact Y_ret h
def Wk (K : Nat) (E : PE0) (B : List PB) (E' : PE0) (B' : List PB) : Prop :=
 ∀ L H Ea, K ≤ L.n → HR L H B → ER L H E Ea → ∃ L', K ≤ L'.n ∧ HR L' H B' ∧ ER L' H E' Ea ∧ (∀ b, b < K → L'.m b = L.m b) ∧ (∀ X, L.F X → L'.F X) ∧ (∀ X, L'.F X → L.F X ∨ Ow L B X) ∧ (∀ X, Ow L' B' X → Ow L B X)
theorem Y_wk {E' : PE0} {B' : List PB} (hw : Wk K E B E' B') (hy : Y P K R k E' B') : Y P K R k E B := by
 intro L0 H0 B0 Rx r1 r2 L H Ea fw hK hR hE
 obtain ⟨L', h1, h2, h3, h4, h5, h6, h7⟩ := hw L H Ea hK hR hE
 have f' : Fw K L H B L' H B' := ⟨⟨Nat.le_refl _, h5, fun _ _ => rfl⟩, h4, fun _ _ _ _ => rfl, fun X hX => (h6 X hX).imp id .inl, fun X hX => .inl (h7 X hX)⟩
 exact hy L0 H0 B0 Rx r1 r2 L' H Ea (fw.trans f') h1 h2 h3
theorem Wk.trans {E1 E2 : PE0} {B1 B2 : List PB} (a : Wk K E B E1 B1) (b : Wk K E1 B1 E2 B2) : Wk K E B E2 B2 := by
 intro L H Ea hK hR hE
 obtain ⟨L1, h1, h2, h3, h4, h5, h6, h7⟩ := a L H Ea hK hR hE
 obtain ⟨L2, g1, g2, g3, g4, g5, g6, g7⟩ := b L1 H Ea h1 h2 h3
 exact ⟨L2, g1, g2, g3, fun x hx => (g4 x hx).trans (h4 x hx), fun X hX => g5 X (h5 X hX), fun X hX => (g6 X hX).elim (h6 X) fun h => .inr (h7 X h), fun X hX => h7 X (g7 X hX)⟩
def lv : List (Nat × PV) → PE0
 | [] => fun _ => .dd
 | (t, v) :: r => (lv r).st t v
theorem Wk_ren (r : Nat → Nat) {E' : PE0} {B' : List PB} (hK : K ≤ B'.length) (hr : ∀ b, b < K → r b = b) (hi : ∀ b c, b < B'.length → c < B'.length → r b = r c → b = c)
  (hB : ∀ b p, B'[b]? = some p → B[r b]? = some (p.ren r) ∧ p.bel B'.length = true) (hE : ∀ t, E' t = .dd ∨ (E t = (E' t).ren r ∧ (E' t).bel B'.length = true)) : Wk K E B E' B' := by
 intro L H Ea hKL hR hEr
 have hn := hR.n
 let L' : Lk := ⟨B'.length, fun b => L.m (r b), L.F⟩
 have hlt : ∀ b, b < B'.length → r b < B.length := fun b hb => by
  obtain ⟨h1, _⟩ := hB b _ (List.getElem?_eq_getElem hb)
  exact (List.getElem?_eq_some_iff.1 h1).1
 have s : Sub r L' L := ⟨fun b hb => by rw [hn]; exact hlt b hb, fun b hb => rfl, fun X => Iff.rfl⟩
 have rown : ∀ q : PB, (q.ren r).own = q.own := fun q => by cases q <;> rfl
 refine ⟨L', hK, ⟨rfl, hR.fl, hR.wf, fun b p hb => ?_, fun b b' p p' X hb hb' ho ho' hX hX' hF => ?_⟩, fun t => ?_, fun b hb => by simp only [L', hr b hb], fun X h => h, fun X h => .inl h, fun X ⟨b, p, h1, h2, h3, h4⟩ => ?_⟩
 ·obtain ⟨h1, h2⟩ := hB b p hb
  exact BkR.unren s h2 (hR.bk _ _ h1)
 ·have h1 := (hB b p hb).1
  have h2 := (hB b' p' hb').1
  have := hR.dj _ _ _ _ X h1 h2 (by rw [rown]; exact ho) (by rw [rown]; exact ho') hX hX' hF
  exact hi b b' (List.getElem?_eq_some_iff.1 hb).1 (List.getElem?_eq_some_iff.1 hb').1 this
 ·rcases hE t with h | ⟨h1, h2⟩
  ·rw [h]; simp only [Rp]
  ·have := hEr t
   rw [h1] at this
   exact Rp.unren s _ h2 this
 ·exact ⟨r b, _, (hB b p h1).1, by rw [rown]; exact h2, h3, h4⟩
def prv (E : PE0) (B : List PB) : List RRes → Option (List PV)
 | [] => some []
 | .t t :: r => (prv E B r).map (E t :: ·)
 | .c t n :: r => (pld n B (E t)).bind fun v => (prv E B r).map (v :: ·)
 | .c1 t :: r => (pld1 B (E t)).bind fun v => (prv E B r).map (v :: ·)
def ptup : List PV → PV
 | [v] => v
 | l => .tu l
theorem prv_ok {L : Lk} {H : AH} {Ea : Env} (hR : HR L H B) (hE : ER L H E Ea) : ∀ {rs : List RRes} {vs : List PV}, prv E B rs = some vs → ∃ as, rvals Ea H rs = some as ∧ RpL L H vs as
 | [], vs, h => by
  simp only [prv, Option.some.injEq] at h; subst h
  exact ⟨[], rfl, rfl⟩
 | .t t :: r, vs, h => by
  simp only [prv, Option.map_eq_some_iff] at h
  obtain ⟨vs', h1, rfl⟩ := h
  obtain ⟨as, h2, h3⟩ := prv_ok hR hE h1
  exact ⟨Ea t :: as, by simp only [rvals, h2, Option.map_some], ⟨_, _, rfl, hE t, h3⟩⟩
 | .c t n :: r, vs, h => by
  simp only [prv, Option.bind_eq_some_iff, Option.map_eq_some_iff] at h
  obtain ⟨v, hv, vs', h1, rfl⟩ := h
  obtain ⟨as, h2, h3⟩ := prv_ok hR hE h1
  obtain ⟨c, h4, h5⟩ := pld_ok hR (hE t) hv
  exact ⟨c :: as, by simp only [rvals, h2, h4, Option.map_some, Option.bind_some], ⟨_, _, rfl, h5, h3⟩⟩
 | .c1 t :: r, vs, h => by
  simp only [prv, Option.bind_eq_some_iff, Option.map_eq_some_iff] at h
  obtain ⟨v, hv, vs', h1, rfl⟩ := h
  obtain ⟨as, h2, h3⟩ := prv_ok hR hE h1
  obtain ⟨c, h4, h5⟩ := pld1_ok hR (hE t) hv
  exact ⟨c :: as, by simp only [rvals, h2, h4, Option.map_some, Option.bind_some], ⟨_, _, rfl, h5, h3⟩⟩
theorem ptup_ok {L : Lk} {H : AH} {vs : List PV} {as : List AV} (h : RpL L H vs as) : Rp L H (ptup vs) (rtup as) := by
 cases vs with
 | nil => simp only [RpL] at h; subst h; exact ⟨[], rfl, rfl⟩
 | cons v r =>
  obtain ⟨a, l', rfl, h2, h3⟩ := h
  cases r with
  | nil => simp only [RpL] at h3; subst h3; exact h2
  | cons u r =>
   have h3' := h3
   obtain ⟨b, l'', rfl, h4, h5⟩ := h3
   exact ⟨_, rfl, a, _, rfl, h2, h3'⟩
def Wv (K : Nat) (B : List PB) (u : PV) (B1 : List PB) (v : PV) : Prop :=
 ∀ L H a, K ≤ L.n → HR L H B → Rp L H u a → ∃ L', K ≤ L'.n ∧ HR L' H B1 ∧ Rp L' H v a ∧ (∀ b, b < K → L'.m b = L.m b) ∧ (∀ X, L.F X → L'.F X) ∧ (∀ X, L'.F X → L.F X ∨ Ow L B X) ∧ (∀ X, Ow L' B1 X → Ow L B X)
theorem Wv_cl {u v : PV} (d : Nat) (h : u.res B d = some v) : Wv 0 B u [] v := by
 intro L H a hK hR hu
 have hF : ∀ X, L.F X ∨ Ow L B X → X < H.nx := fun X hX => hX.elim (hR.fl X) (Ow_lt hR)
 refine ⟨⟨0, L.m, fun X => L.F X ∨ Ow L B X⟩, Nat.le_refl _, HR_nil hF hR.wf, Rc.p _ ((res_ok hR (fun _ h => .inl h) (fun _ h => .inr h) d).1 u hu h), fun b hb => by omega, fun X h => .inl h, fun X h => h, fun X ⟨b, p, h1, _⟩ => by simp at h1⟩
theorem Wv_ren (r : Nat → Nat) {u v : PV} {B1 : List PB} (hK : K ≤ B1.length) (hr : ∀ b, b < K → r b = b) (hi : ∀ b c, b < B1.length → c < B1.length → r b = r c → b = c)
  (hB : ∀ b p, B1[b]? = some p → B[r b]? = some (p.ren r) ∧ p.bel B1.length = true) (hu : u = v.ren r) (hv : v.bel B1.length = true) : Wv K B u B1 v := by
 intro L H a hKL hR hua
 have := Wk_ren (K := K) (E := fun t => if t = 0 then u else .dd) (E' := fun t => if t = 0 then v else .dd) r hK hr hi hB (fun t => by
  by_cases ht : t = 0
  ·subst ht; exact .inr ⟨hu, hv⟩
  ·left; simp [ht])
 obtain ⟨L', h1, h2, h3, h4⟩ := this L H (fun _ => a) hKL hR (fun t => by
  by_cases ht : t = 0
  ·subst ht; exact hua
  ·simp only [ht, if_false, Rp])
 exact ⟨L', h1, h2, h3 0, h4⟩
def penv (args : List PV) : PE0 := fun i => args.getD i (.tu [])
def Ends (K : Nat) (rs : List RRes) (B1 : List PB) (v : PV) : PEnd := ⟨fun o E B => match o with | none => ∃ vs, prv E B rs = some vs ∧ Wv K B (ptup vs) B1 v | some _ => False, [], true⟩
theorem penv_ok {L : Lk} {H : AH} : ∀ {args : List PV} {as : List AV}, RpL L H args as → ER L H (penv args) (env as) := by
 intro args as h t
 simp only [penv, env, List.getD_eq_getElem?_getD]
 cases hg : args[t]? with
 | some v =>
  obtain ⟨a, h1, h2⟩ := h.get hg
  rw [h1]; exact h2
 | none =>
  have : as[t]? = none := by
   rw [List.getElem?_eq_none_iff] at hg ⊢
   rw [h.len]; exact hg
  rw [this]
  exact ⟨[], rfl, rfl⟩
theorem pcall_of_Y {f : FuncId} {rf : RFun} {args : List PV} {B1 : List PB} {v : PV} (hf : resF P f = some rf) (hn : args.length ≤ rf.nt) (h : Y P B.length (Ends B.length rf.rs B1 v) [.c rf.body] (penv args) B) : PCall P f B args B1 v (List.range B.length) := by
 intro L H avs hR ha
 have hLn := hR.n
 let Q : AEnd → AH → Prop := fun r H' => ∃ a L', r = .ret a ∧ Fw B.length L H B L' H' B1 ∧ B.length ≤ L'.n ∧ HR L' H' B1 ∧ Rp L' H' v a
 have hc := call_of_XD (Q := Q) hf (by rw [ha.len]; exact hn) (h L H B ⟨FinD P rf.rs Q, fun _ _ _ _ _ H2 h1 h2 => ⟨H2, h1, h2⟩⟩ ?_ ?_ L H (env avs) .refl (by omega) hR (penv_ok ha))
 ·obtain ⟨r, H', h1, a, L', rfl, h2, h3, h4, h5⟩ := hc
  refine ⟨a, H', L', h1, ⟨⟨h2.st, by rw [hLn]; exact h3, fun b hb => h2.m b (by omega)⟩, h2.fr, h2.fF, h2.fO⟩, h4, h5, fun X hX hT => ?_⟩
  by_cases hF : L.F X
  ·exact h2.st.g X hF
  ·refine h2.fr X hX hF fun ⟨b, p, g1, g2, g3, g4⟩ => ?_
   have hb := (List.getElem?_eq_some_iff.1 g1).1
   exact hT b (List.mem_range.2 hb) (by omega) g3
 ·rintro L1 H1 E1 B2 Ea fw hK hR1 hE1 ⟨vs, h1, h2⟩
  obtain ⟨as, h3, h4⟩ := prv_ok hR1 hE1 h1
  obtain ⟨L2, g1, g2, g3, g4, g5, g6, g7⟩ := h2 L1 H1 _ hK hR1 (ptup_ok h4)
  have f' : Fw B.length L1 H1 B2 L2 H1 B1 := ⟨⟨Nat.le_refl _, g5, fun _ _ => rfl⟩, g4, fun _ _ _ _ => rfl, fun X hX => (g6 X hX).imp id .inl, fun X hX => .inl (g7 X hX)⟩
  exact ⟨as, h3, _, L2, rfl, fw.trans f', g1, g2, g3⟩
 ·rintro L1 H1 E1 B2 Ea v a fw hK hR1 hE1 hv h
  exact h.elim
theorem pu_of_Y {f : FuncId} {rf : RFun} {args : List PV} {B1 : List PB} {v : PV} (hf : resF P f = some rf) (hn : args.length ≤ rf.nt) (h : Y P 0 (Ends 0 rf.rs B1 v) [.c rf.body] (penv args) []) : Pu P f args B1 v := pcall_of_Y (B := []) hf hn h
end
end Go.AX
end
section
namespace Go.AX
open Go
theorem stable_ext {vo : VOp} {E : Env} {H H' : AH} {v : AV} (hc : vo.cls = 0) (hg : ∀ b, H.g b ≠ .no → H'.g b = H.g b) (h : vop vo E H = some (v, H)) : vop vo E H' = some (v, H') := by
 by_cases hp : vo.pure = true
 ·exact pure_any hp h
 ·cases vo <;> first
   | exact absurd hc (show ¬ ((1 : Nat) = 0) by decide)
   | exact absurd hc (show ¬ ((2 : Nat) = 0) by decide)
   | exact absurd rfl hp
   | skip
  case ld n x =>
   have h1 := (map_pair h).1
   simp only [vop]
   have : vld n H' (ev E x) = some v := by
    cases hx : ev E x <;> rw [hx] at h1 <;> simp only [vld, reduceCtorEq] at h1 ⊢
    rename_i b o
    obtain ⟨m, hm, rfl⟩ := Option.map_eq_some_iff.1 h1
    refine Option.map_eq_some_iff.2 ⟨m, ?_, rfl⟩
    unfold AH.rd at hm ⊢
    split at hm
    ·rename_i hle
     simp only [Option.some.injEq] at hm; subst hm
     by_cases hb : H.g b = .no
     ·rw [hb] at hle
      simp only [Blk.cells, List.length_nil, Nat.le_zero_eq, Nat.add_eq_zero_iff] at hle
      obtain ⟨rfl, rfl⟩ := hle
      simp [hb, Blk.cells]
     ·rw [hg b hb, if_pos hle]
    ·cases hm
   rw [this]; rfl
  case ld1 x =>
   have h1 := (map_pair h).1
   simp only [vop]
   have : vld1 H' (ev E x) = some v := by
    cases hx : ev E x <;> rw [hx] at h1 <;> simp only [vld1, reduceCtorEq] at h1 ⊢
    rename_i b o
    have hb : H.g b ≠ .no := fun e => by rw [e] at h1; simp [Blk.cells] at h1
    rw [hg b hb]; exact h1
   rw [this]; rfl
  case cvsame x =>
   have h1 := (map_pair h).1
   simp only [vop]
   have : vcvsame H' (ev E x) = some v := by
    cases hx : ev E x <;> rw [hx] at h1 <;> simp only [vcvsame, reduceCtorEq] at h1 ⊢
    ·rename_i b o n c
     split at h1
     ·rename_i ho
      have hb : H.g b ≠ .no := fun e => by rw [e] at ho; simp [Blk.own] at ho
      rw [hg b hb, if_pos ho]; exact h1
     ·cases h1
    ·rename_i b o q n es
     split at h1
     ·rename_i ho
      have hb : H.g b ≠ .no := fun e => by rw [e] at ho; simp [Blk.own] at ho
      rw [hg b hb, if_pos ho]; exact h1
     ·cases h1
   rw [this]; rfl
  case b2s x =>
   have h1 := (map_pair h).1
   simp only [vop]
   have : vb2s H' (ev E x) = some v := by
    unfold vb2s at h1 ⊢
    obtain ⟨nm, h2, h3⟩ := Option.bind_eq_some_iff.1 h1
    refine Option.bind_eq_some_iff.2 ⟨nm, ?_, h3⟩
    have rdl : ∀ b o n m, H.rd b o n = some m → H'.rd b o n = some m := by
     intro b o n m hm
     unfold AH.rd at hm ⊢
     by_cases hb : H.g b = .no
     ·split at hm
      ·rename_i hle
       rw [hb] at hle hm
       simp only [Blk.cells, List.length_nil, Nat.le_zero_eq, Nat.add_eq_zero_iff] at hle
       obtain ⟨rfl, rfl⟩ := hle
       simp at hm
       simp [hm]
      ·cases hm
     ·rw [hg b hb]; exact hm
    cases hx : ev E x <;> rw [hx] at h2 <;> simp only [AH.sc, reduceCtorEq] at h2 ⊢
    ·exact h2
    ·obtain ⟨m, hm, rfl⟩ := Option.map_eq_some_iff.1 h2
     rw [rdl _ _ _ _ hm]; rfl
    ·rename_i b o q n es'
     split at h2
     ·rename_i hc
      have hb : H.g b ≠ .no := fun e => by have := hc.2.2; rw [e] at this; simp [Blk.isRw] at this
      rw [hg b hb, if_pos hc]
      obtain ⟨m, hm, rfl⟩ := Option.map_eq_some_iff.1 h2
      rw [rdl _ _ _ _ hm]; rfl
     ·cases h2
   rw [this]; rfl
  case slc es x lo hi mx =>
   have h1 := (map_pair h).1
   simp only [vop]
   have : vslc es H' E (ev E x) lo hi mx = some v := by
    cases hx : ev E x <;> rw [hx] at h1 <;> simp only [vslc, reduceCtorEq] at h1 ⊢
    ·exact h1
    ·exact h1
    ·rename_i b o q n es'
     split at h1
     ·rename_i hc
      have hb : H.g b ≠ .no := fun e => by have := hc.2.2.2; rw [e] at this; simp [Blk.isRw] at this
      rw [hg b hb, if_pos hc]; exact h1
     ·cases h1
   rw [this]; rfl
  case ia es x i =>
   have h1 := (map_pair h).1
   simp only [vop]
   have : via es H' (ev E x) (ev E i) = some v := by
    cases hx : ev E x <;> cases hi : ev E i <;> rw [hx, hi] at h1 <;> simp only [via, reduceCtorEq] at h1 ⊢
    ·exact h1
    ·rename_i b o q n es' k ii
     split at h1
     ·rename_i hc
      have hb : H.g b ≠ .no := fun e => by have := hc.2.2.2.1; rw [e] at this; simp [Blk.isRw] at this
      rw [hg b hb, if_pos hc]; exact h1
     ·cases h1
   rw [this]; rfl
  case len k x =>
   have h1 := (map_pair h).1
   simp only [vop]
   have : vlen k H' (ev E x) = some v := by
    generalize ev E x = u at *
    unfold vlen at h1 ⊢
    split
    ·exact h1
    ·exact h1
    ·simp only at h1
     cases u <;> first
      | exact h1
      | skip
     rename_i b
     simp only at h1 ⊢
     cases hb : H.g b <;> rw [hb] at h1 <;> first
      | cases h1
      | skip
     rename_i es
     rw [hg b (by rw [hb]; simp), hb]
     try exact h1
   rw [this]; rfl
  case lkp z ok x i =>
   have h1 := (map_pair h).1
   simp only [vop]
   have : vlkp z ok H' (ev E x) (ev E i) = some v := by
    generalize ev E x = u at *
    generalize ev E i = y at *
    unfold vlkp at h1 ⊢
    split at h1
    ·rename_i b k n
     split at h1
     ·rename_i hd es hgb
      rw [hg b (by rw [hgb]; simp), hgb]
      exact h1
     ·cases h1
    ·cases h1
   rw [this]; rfl
abbrev RL := List (ROper × List Nat × Bool)
def RL.at (l : RL) (p : Nat) : ROper × List Nat × Bool := l.getD p default
def mkR (l : RL) : List DOp := l.map fun x => ⟨x.1, x.2.1.map fun p => (l.at p).1⟩
def backOk (y : ROper) : Bool := y.d.isSome && !y.d.any (fun d => y.reads.contains d) && match y.o with | .v vo => vo.cls != 2 | _ => false
def mkRok (l : RL) : Bool := (List.range l.length).all fun q =>
 (l.at q).2.1.all (fun p => decide (p < q) && backOk (l.at p).1 && (List.range (q + 1)).all fun s => decide (s ≤ p) || !(l.at s).1.d.any fun d => (l.at p).1.names.contains d) &&
 (!(l.at q).2.2 || ((l.at q).2.1.isEmpty && (List.range l.length).all fun q' => decide (q' < q) || (l.at q').2.1.all fun p => decide (q ≤ p)))
def Nd (l : RL) (q p : Nat) : Prop := ∃ q', q ≤ q' ∧ q' < l.length ∧ p ∈ (l.at q').2.1
def FactR (r : ROper) (E : Env) (H : AH) : Prop :=
 gwant E r.g = some false ∨ ∃ vo t, r.o = .v vo ∧ r.d = some t ∧ if vo.cls = 1 then (∃ b, b < H.nx ∧ ((∃ o, E t = .pt b o) ∨ ∃ o n c, E t = .sl b o n c)) else vo.cls = 0 ∧ vop vo E H = some (E t, H)
def Facts (l : RL) (q : Nat) (E : Env) (H : AH) : Prop := ∀ p, p < q → Nd l q p → FactR (l.at p).1 E H
theorem mkRok_at {l : RL} (h : mkRok l = true) {q : Nat} (hq : q < l.length) :
  (∀ p ∈ (l.at q).2.1, p < q ∧ backOk (l.at p).1 = true ∧ ∀ s, p < s → s ≤ q → ∀ d, (l.at s).1.d = some d → d ∉ (l.at p).1.names) ∧
  ((l.at q).2.2 = true → (l.at q).2.1 = [] ∧ ∀ q', q ≤ q' → q' < l.length → ∀ p ∈ (l.at q').2.1, q ≤ p) := by
 have h1 := List.all_eq_true.1 h q (List.mem_range.2 hq)
 simp only [Bool.and_eq_true] at h1
 obtain ⟨h1, h2⟩ := h1
 refine ⟨fun p hp => ?_, fun hc => ?_⟩
 ·have h3 := List.all_eq_true.1 h1 p hp
  simp only [Bool.and_eq_true, decide_eq_true_eq] at h3
  obtain ⟨⟨h3, h4⟩, h5⟩ := h3
  refine ⟨h3, h4, fun s hs hsq d hd => ?_⟩
  have h6 := List.all_eq_true.1 h5 s (List.mem_range.2 (by omega))
  simp only [Bool.or_eq_true, decide_eq_true_eq, Bool.not_eq_true'] at h6
  rcases h6 with h6 | h6
  ·omega
  ·rw [hd] at h6
   simpa using h6
 ·rw [hc] at h2
  simp only [Bool.not_true, Bool.false_or, Bool.and_eq_true] at h2
  refine ⟨by simpa using h2.1, fun q' hq' hl p hp => ?_⟩
  have h6 := List.all_eq_true.1 h2.2 q' (List.mem_range.2 hl)
  simp only [Bool.or_eq_true, decide_eq_true_eq] at h6
  rcases h6 with h6 | h6
  ·omega
  ·have := List.all_eq_true.1 h6 p hp
   simpa using this
theorem reads_sub {r : ROper} {d : Nat} (h : d ∉ r.names) : d ∉ r.reads := fun h' => h (by simp only [ROper.names, List.mem_append]; exact .inr h')
theorem gwant_put {r : ROper} {E : Env} {d : Nat} {v : AV} (h : d ∉ r.reads) : gwant (E.st d v) r.g = gwant E r.g := by
 cases hg : r.g with
 | none => rfl
 | some tb =>
  obtain ⟨t, b⟩ := tb
  have : t ≠ d := fun e => h (by simp [ROper.reads, hg, e])
  simp only [gwant, Env.st, if_neg this]
theorem vop_put {r : ROper} {vo : VOp} {E : Env} {H : AH} {d : Nat} {v : AV} (ho : r.o = .v vo) (h : d ∉ r.reads) : vop vo (E.st d v) H = vop vo E H := by
 refine vop_congr fun x hx => ?_
 cases x with
 | t n =>
  have : n ≠ d := fun e => h (by
   simp only [ROper.reads, List.mem_append]
   right
   rw [ho]
   exact opdT_mem (by rw [← e]; exact hx))
  simp only [ev, Env.st, if_neg this]
 | k v => rfl
 | f n => rfl
theorem FactR.put {r : ROper} {E : Env} {H H' : AH} {d : Option Nat} {v : AV} (h : FactR r E H) (hd : ∀ x, d = some x → x ∉ r.names) (hn : H.nx ≤ H'.nx) (hg : ∀ X, H.g X ≠ .no → H'.g X = H.g X) : FactR r (E.put d v) H' := by
 have hh : FactR r E H' := by
  rcases h with h | ⟨vo, t, h1, h2, h3⟩
  ·exact .inl h
  ·refine .inr ⟨vo, t, h1, h2, ?_⟩
   split
   ·rename_i hc
    rw [if_pos hc] at h3
    obtain ⟨b, h4, h5⟩ := h3
    exact ⟨b, by omega, h5⟩
   ·rename_i hc
    rw [if_neg hc] at h3
    exact ⟨h3.1, stable_ext h3.1 hg h3.2⟩
 cases d with
 | none => exact hh
 | some x =>
  have hx := hd x rfl
  have hr := reads_sub hx
  rcases hh with h | ⟨vo, t, h1, h2, h3⟩
  ·exact .inl (by simp only [Env.put]; rw [gwant_put hr]; exact h)
  ·have ht : t ≠ x := fun e => hx (by simp [ROper.names, h2, e])
   refine .inr ⟨vo, t, h1, h2, ?_⟩
   simp only [Env.put]
   rw [vop_put h1 hr]
   simp only [Env.st, if_neg ht]
   exact h3
theorem FactR.chk {r : ROper} {E : Env} {H H' : AH} {d : Option Nat} {v : AV} (h : FactR r E H) (hd : ∀ x, d = some x → x ∉ r.names) (hn : H.nx ≤ H'.nx) (hg : ∀ X, H.g X ≠ .no → H'.g X = H.g X) (hlt : ∀ X, X < H.nx → H'.g X = H.g X) : Rechk r (E.put d v) H H' := by
 intro u hu
 rcases h with h | ⟨vo, t, g1, g2, g3⟩
 ·left
  cases d with
  | none => exact h
  | some x => simp only [Env.put]; rw [gwant_put (reads_sub (hd x rfl))]; exact h
 ·right
  rw [g1]
  rw [hu] at g2; simp only [Option.some.injEq] at g2; subst g2
  have he : (E.put d v) u = E u := by
   cases d with
   | none => rfl
   | some x =>
    have : u ≠ x := fun e => hd x rfl (by simp [ROper.names, hu, e])
    simp only [Env.put, Env.st, if_neg this]
  simp only
  rw [he]
  split
  ·rename_i hc
   rw [if_pos hc] at g3
   obtain ⟨b, h4, h5⟩ := g3
   rcases h5 with ⟨o, h5⟩ | ⟨o, n, c, h5⟩ <;> (rw [h5]; exact hlt b h4)
  ·rename_i hc
   rw [if_neg hc] at g3
   have hvp : vop vo (E.put d v) H' = vop vo E H' := by
    cases d with
    | none => rfl
    | some x => simp only [Env.put]; exact vop_put g1 (reads_sub (hd x rfl))
   rw [hvp]
   exact stable_ext g3.1 hg g3.2
section
variable {P : Program} {K : Nat} {R : PEnd} {k : List It} {E : PE0} {B : List PB} {l : RL} {q : Nat}
theorem RL.lt {x : ROper × List Nat × Bool} {rem : RL} (h : l.drop q = x :: rem) : q < l.length ∧ l.at q = x ∧ l.drop (q + 1) = rem := by
 have hq : q < l.length := by
  rcases Nat.lt_or_ge q l.length with h1 | h1
  ·exact h1
  ·rw [List.drop_of_length_le h1] at h; cases h
 rw [List.drop_eq_getElem_cons hq] at h
 simp only [List.cons.injEq] at h
 exact ⟨hq, by simp only [RL.at, List.getD_eq_getElem?_getD, List.getElem?_eq_getElem hq, Option.getD_some]; exact h.1, h.2⟩
theorem mkR_drop {x : ROper × List Nat × Bool} {rem : RL} (h : l.drop q = x :: rem) : (mkR l).drop q = ⟨x.1, x.2.1.map fun p => (l.at p).1⟩ :: (mkR l).drop (q + 1) := by
 unfold mkR
 rw [← List.map_drop, ← List.map_drop, h, (RL.lt h).2.2, List.map_cons]
theorem facts_next {x : ROper × List Nat × Bool} {rem : RL} (hl : l.drop q = x :: rem) (ok : mkRok l = true) {Ea : Env} {H H' : AH} {v : AV} (hF : Facts l q Ea H) (hn : H.nx ≤ H'.nx) (hw : ∀ X, H.nx ≤ X → H.g X = .no)
  (hun : x.2.2 = true ∨ ∀ X, X < H.nx → H'.g X = H.g X) (self : backOk x.1 = true → FactR x.1 (Ea.put x.1.d v) H') :
  Facts l (q + 1) (Ea.put x.1.d v) H' ∧ Rechks (x.2.1.map fun p => (l.at p).1) (Ea.put x.1.d v) H H' := by
 obtain ⟨hq, hx, _⟩ := RL.lt hl
 obtain ⟨m1, m2⟩ := mkRok_at ok hq
 rw [hx] at m1 m2
 have hg : (∀ X, X < H.nx → H'.g X = H.g X) → ∀ X, H.g X ≠ .no → H'.g X = H.g X := fun h X hX => h X (by
  rcases Nat.lt_or_ge X H.nx with h1 | h1
  ·exact h1
  ·exact absurd (hw X h1) hX)
 refine ⟨fun p hp hnd => ?_, fun r hr => ?_⟩
 ·obtain ⟨q', h1, h2, h3⟩ := hnd
  obtain ⟨n1, _⟩ := mkRok_at ok h2
  obtain ⟨n2, n3, n4⟩ := n1 p h3
  by_cases hpq : p = q
  ·subst hpq
   rw [hx] at n3 ⊢
   exact self n3
  ·have hpq' : p < q := by omega
   rcases hun with hc | hc
   ·have := (m2 hc).2 q' (by omega) h2 p h3
    omega
   ·refine (hF p hpq' ⟨q', by omega, h2, h3⟩).put (fun d hd => ?_) hn (hg hc)
    have := n4 q hpq' (by omega)
    rw [hx] at this
    exact this d hd
 ·obtain ⟨p, hp, rfl⟩ := List.mem_map.1 hr
  obtain ⟨n2, n3, n4⟩ := m1 p hp
  have hds : (l.at p).1.d.isSome = true := by
   unfold backOk at n3
   simp only [Bool.and_eq_true] at n3
   exact n3.1.1
  refine ⟨hds, ?_⟩
  rcases hun with hc | hc
  ·rw [(m2 hc).1] at hp; cases hp
  ·refine (hF p n2 ⟨q, Nat.le_refl _, hq, by rw [hx]; exact hp⟩).chk (fun d hd => ?_) hn (hg hc) hc
   have := n4 q n2 (Nat.le_refl _)
   rw [hx] at this
   exact this d hd
def YR (P : Program) (K : Nat) (R : PEnd) (l : RL) (q : Nat) (rem : RL) (k : List It) (E : PE0) (B : List PB) : Prop :=
 l.drop q = rem → mkRok l = true → ∀ L0 H0 B0 (Rx : FinC P R.fl), (∀ L H E' B' Ea, Fw K L0 H0 B0 L H B' → K ≤ L.n → HR L H B' → ER L H E' Ea → R none E' B' → Rx .ret Ea H R.ds) →
  (∀ L H E' B' Ea v a, Fw K L0 H0 B0 L H B' → K ≤ L.n → HR L H B' → ER L H E' Ea → Rp L H v a → R (some v) E' B' → Rx (.pan [⟨a, false⟩]) Ea H R.ds) →
  ∀ L H Ea, Fw K L0 H0 B0 L H B → K ≤ L.n → HR L H B → ER L H E Ea → Facts l q Ea H → XD P Rx ((mkR l).drop q) k Ea H R.ds
theorem Y_regd (ok : mkRok l = true) (h : ∀ l', l' = l → YR P K R l' 0 l k E B) : Y P K R (.c (.regd (mkR l)) :: k) E B := by
 intro L0 H0 B0 Rx r1 r2 L H Ea fw hK hR hE
 rw [X_regd]
 have := h l rfl rfl ok L0 H0 B0 Rx r1 r2 L H Ea fw hK hR hE (fun p hp => by omega)
 simpa using this
theorem YR_nil (h : Y P K R k E B) : YR P K R l q [] k E B := by
 intro hl ok L0 H0 B0 Rx r1 r2 L H Ea fw hK hR hE hF
 have : (mkR l).drop q = [] := by
  unfold mkR
  rw [← List.map_drop, hl]; rfl
 rw [this, XD_nil]
 exact h L0 H0 B0 Rx r1 r2 L H Ea fw hK hR hE
theorem cls1_fact {vo : VOp} {E : Env} {H H' : AH} {c : AV} (hc : vo.cls = 1) (h : vop vo E H = some (c, H')) : ∃ b, b < H'.nx ∧ ((∃ o, c = .pt b o) ∨ ∃ o n k, c = .sl b o n k) := by
 obtain ⟨m, rfl, rfl | ⟨n, k, rfl⟩⟩ := cls1_al hc h
 ·exact ⟨_, Nat.lt_succ_self _, .inl ⟨_, rfl⟩⟩
 ·exact ⟨_, Nat.lt_succ_self _, .inr ⟨_, _, _, rfl⟩⟩
theorem vo_self {r : ROper} {vo : VOp} (ho : r.o = .v vo) {Ea : Env} {H H' : AH} {c : AV} (hv : vop vo Ea H = some (c, H')) : backOk r = true → FactR r (Ea.put r.d c) H' := by
 intro hb
 unfold backOk at hb
 rw [ho] at hb
 simp only [Bool.and_eq_true, bne_iff_ne, ne_eq] at hb
 obtain ⟨⟨h1, h2⟩, h3⟩ := hb
 cases hd : r.d with
 | none => rw [hd] at h1; cases h1
 | some t =>
  rw [hd] at h2
  have hr : t ∉ r.reads := by simpa using h2
  refine .inr ⟨vo, t, ho, hd, ?_⟩
  have he : (Ea.put (some t) c) t = c := by simp [Env.put, Env.st]
  rw [he]
  split
  ·rename_i hc
   exact cls1_fact hc hv
  ·rename_i hc
   have hc0 : vo.cls = 0 := by
    have : vo.cls = 0 ∨ vo.cls = 1 ∨ vo.cls = 2 := by cases vo <;> simp [VOp.cls]
    omega
   have := cls0 hc0 hv
   subst this
   exact ⟨hc0, by simp only [Env.put]; rw [vop_put ho hr]; exact hv⟩
def gval (E : PE0) : Option (Nat × Bool) → Option Bool
 | none => some true
 | some (t, b) => match E t with | .bo c => some (c == b) | .tu [] => some false | _ => none
theorem gval_ok {L : Lk} {H : AH} {Ea : Env} (hE : ER L H E Ea) {g : Option (Nat × Bool)} {x : Bool} (h : gval E g = some x) : gwant Ea g = some x := by
 cases g with
 | none => exact h
 | some tb =>
  obtain ⟨t, b⟩ := tb
  have hr := hE t
  simp only [gval] at h
  split at h
  ·rename_i c hc
   rw [hc] at hr; simp only [Rp] at hr
   simp only [gwant, hr]; exact h
  ·rename_i hc
   rw [hc] at hr
   obtain ⟨l', hr, h0⟩ := hr
   simp only [RpL] at h0; subst h0
   simp only [gwant, hr]; exact h
  ·cases h
variable {d : Option Nat} {g : Option (Nat × Bool)} {rk : List Nat} {ck : Bool} {rem : RL} {v : PV} {B' : List PB}
def pendL (l : RL) (q : Nat) : List Nat := ((l.drop q).flatMap (·.2.1)).filter fun p => decide (p < q)
theorem pend_mem {p : Nat} (h : Nd l q p) (hp : p < q) : p ∈ pendL l q := by
 obtain ⟨q', h1, h2, h3⟩ := h
 refine List.mem_filter.2 ⟨List.mem_flatMap.2 ⟨l.at q', ?_, h3⟩, by simpa using hp⟩
 refine List.mem_of_getElem? (i := q' - q) ?_
 rw [List.getElem?_drop, show q + (q' - q) = q' by omega]
 simp only [RL.at, List.getD_eq_getElem?_getD, List.getElem?_eq_getElem h2, Option.getD_some]
theorem YR_skip {o : ROp} (hg : gval E g = some false) (hy : YR P K R l (q + 1) rem k (E.put d (.tu [])) B) : YR P K R l q ((⟨d, g, o⟩, rk, ck) :: rem) k E B := by
 intro hl ok L0 H0 B0 Rx r1 r2 L H Ea fw hK hR hE hF
 have hgw := gval_ok hE hg
 obtain ⟨f1, f2⟩ := facts_next (H' := H) (v := .tu []) hl ok hF (Nat.le_refl _) hR.wf (.inr fun _ _ => rfl) (fun hb => by
  left
  unfold backOk at hb
  simp only [Bool.and_eq_true] at hb
  cases d with
  | none => exact hgw
  | some x =>
   have hr : x ∉ (⟨some x, g, o⟩ : ROper).reads := by simpa using hb.1.2
   have := gwant_put (E := Ea) (v := .tu []) hr
   simp only at this
   simp only [Env.put]
   rw [this]; exact hgw)
 rw [mkR_drop hl]
 exact ⟨_, H, ⟨false, hgw, by simp⟩, hy (RL.lt hl).2.2 ok L0 H0 B0 Rx r1 r2 L H _ fw hK hR (ER_put hE ⟨[], rfl, rfl⟩) f1⟩
abbrev Zr := PE0 → List PB → Prop
def ZRV (z : Zr) (r : Option (PV × List PB)) (ck : Bool) (T : List Nat) (d : Option Nat) (E : PE0) (F : Prop) : Prop := match r with | some (v, B') => if ck = true ∨ T = [] then z (E.put d v) B' else F | none => False
def ZRO (P : Program) (K : Nat) (R : PEnd) (l : RL) (k : List It) (q : Nat) (x : ROper × List Nat × Bool) (rem : RL) (E : PE0) (B : List PB) (z : Zr) : ROp → Prop
 | .v vo => ZRV z (pop vo E B) x.2.2 (tch E vo) x.1.d E (YR P K R l q (x :: rem) k E B)
 | _ => YR P K R l q (x :: rem) k E B
def ZRG (P : Program) (K : Nat) (R : PEnd) (l : RL) (k : List It) (q : Nat) (x : ROper × List Nat × Bool) (rem : RL) (E : PE0) (B : List PB) (z : Zr) (v : PV) (b : Bool) (o : ROp) : Prop :=
 match v with
 | .bo c => if c = b then ZRO P K R l k q x rem E B z o else z (E.put x.1.d (.tu [])) B
 | .tu [] => z (E.put x.1.d (.tu [])) B
 | _ => False
def ZR (P : Program) (K : Nat) (R : PEnd) (l : RL) (k : List It) : Nat → RL → PE0 → List PB → Prop
 | _, [], E, B => Z P K R 2000 k E B
 | q, (⟨d, none, o⟩, rk, ck) :: rem, E, B => ZRO P K R l k q (⟨d, none, o⟩, rk, ck) rem E B (ZR P K R l k (q + 1) rem) o
 | q, (⟨d, some (t, b), o⟩, rk, ck) :: rem, E, B => ZRG P K R l k q (⟨d, some (t, b), o⟩, rk, ck) rem E B (ZR P K R l k (q + 1) rem) (E t) b o
end
end Go.AX
end
