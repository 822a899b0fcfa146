/- AY, part C: reading. -/
import Derived.Test.YtjmknbbipadjbaaAyB
set_option linter.unusedSimpArgs false
set_option linter.unusedVariables false
namespace Go.AX
open Go

section
variable {F : Nat → Prop} {H : AH} {es : Nat}
theorem Rc.cl {v : PV} {a : AV} {l : List PV} (h : Rc F H v a) (hl : v.cl = some l) : ∃ c, a.cl = some c ∧ RcL F H l c := by
  cases v <;> simp only [PV.cl, Option.some.injEq, reduceCtorEq] at hl <;> subst hl
  case ag l => obtain ⟨l', rfl, h2⟩ := h; exact ⟨l', rfl, h2⟩
  all_goals refine ⟨[a], ?_, ⟨a, [], rfl, h, rfl⟩⟩
  case vs => obtain ⟨⟨cs, h1, _⟩, _⟩ := h; exact h1.cl
  case pe => obtain ⟨_, _, _, rfl, _⟩ := h; rfl
  case fn => obtain ⟨_, _, rfl, _⟩ := h; rfl
  case fc => obtain ⟨_, rfl, _⟩ := h; rfl
  all_goals first
    | (simp only [Rc] at h; subst h; rfl)
    | (simp only [Rc] at h)
theorem RcE.len : ∀ {l : List PV} {cs : List AV}, RcE F H es l cs → cs.length = l.length * es
  | [], _, h => by simp only [RcE] at h; subst h; simp
  | v :: r, _, ⟨a, c, cs', h1, h2, h3, h4, h5⟩ => by subst h4; rw [List.length_append, h5.len, h3, List.length_cons, Nat.add_mul]; omega
theorem RcE.app : ∀ {l m : List PV} {cs ds : List AV}, RcE F H es l cs → RcE F H es m ds → RcE F H es (l ++ m) (cs ++ ds)
  | [], _, _, _, h, h' => by simp only [RcE] at h; subst h; exact h'
  | v :: r, _, _, _, ⟨a, c, cs', h1, h2, h3, h4, h5⟩, h' => by subst h4; exact ⟨a, c, _, h1, h2, h3, by rw [List.append_assoc], h5.app h'⟩
theorem RcE.drop : ∀ {l : List PV} {cs : List AV} (n : Nat), RcE F H es l cs → RcE F H es (l.drop n) (cs.drop (n * es))
  | [], _, n, h => by simp only [RcE] at h; subst h; simp [RcE]
  | v :: r, _, 0, h => by simpa using h
  | v :: r, _, n + 1, ⟨a, c, cs', h1, h2, h3, h4, h5⟩ => by
    subst h4
    show RcE F H es (r.drop n) _
    rw [Nat.add_mul, Nat.one_mul, Nat.add_comm (n * es) es, ← List.drop_drop, List.drop_left' h3]
    exact h5.drop n
theorem RcE.take : ∀ {l : List PV} {cs : List AV} (n : Nat), RcE F H es l cs → RcE F H es (l.take n) (cs.take (n * es))
  | [], _, n, h => by simp only [RcE] at h; subst h; simp [RcE]
  | v :: r, _, 0, h => by simp [RcE]
  | v :: r, _, n + 1, ⟨a, c, cs', h1, h2, h3, h4, h5⟩ => by
    subst h4
    refine ⟨a, c, cs'.take (n * es), h1, h2, h3, ?_, h5.take n⟩
    rw [Nat.add_mul, Nat.one_mul, Nat.add_comm, List.take_append, List.take_of_length_le (by omega), h3, Nat.add_sub_cancel_left]
/-- An element's cells. -/
theorem RcE.elt {l : List PV} {cs : List AV} {i : Nat} {e : PV} (h : RcE F H es l cs) (he : l[i]? = some e) : ∃ a, Rc F H e a ∧ a.cl = some ((cs.drop (i * es)).take es) ∧ ((cs.drop (i * es)).take es).length = es ∧ i * es + es ≤ cs.length := by
  have hi := (List.getElem?_eq_some_iff.1 he).1
  have h1 := h.drop i
  have hd : l.drop i = e :: l.drop (i + 1) := by
    rw [List.drop_eq_getElem_cons hi]
    rw [List.getElem?_eq_getElem hi] at he
    simp only [Option.some.injEq] at he
    rw [he]
  rw [hd] at h1
  obtain ⟨a, c, cs', h2, h3, h4, h5, h6⟩ := h1
  have hc : (cs.drop (i * es)).take es = c := by rw [h5, List.take_left' h4]
  refine ⟨a, h2, by rw [hc]; exact h3, by rw [hc]; exact h4, ?_⟩
  have hl := h.len
  have := Nat.mul_le_mul_right es (show i + 1 ≤ l.length by omega)
  rw [Nat.add_mul, Nat.one_mul] at this
  omega
end

section
variable {L : Lk} {H : AH} {B : List PB} {E : Nat → PV} {Ea : Env}
theorem Rd.sub {X q : Nat} {cs : List AV} (h : Rd H X q cs) (o n : Nat) (hn : o + n ≤ cs.length) : H.rd X (q + o) n = some ((cs.drop o).take n) := by
  refine rd_at (fun i v hi => ?_) ?_ ?_
  · rw [List.getElem?_take] at hi
    split at hi
    · rw [List.getElem?_drop] at hi
      rw [Nat.add_assoc]; exact h.1 _ v hi
    · cases hi
  · have := h.2; simp; omega
  · simp; omega
theorem Rd.of {X : Nat} {cs sp : List AV} (h : H.g X = .rw (cs ++ sp)) (o n : Nat) (hn : o + n ≤ cs.length) : Rd H X o ((cs.drop o).take n) := by
  refine ⟨fun i v hi => ?_, ?_⟩
  · rw [h]
    rw [List.getElem?_take] at hi
    split at hi
    · rw [List.getElem?_drop] at hi
      have hl := (List.getElem?_eq_some_iff.1 hi).1
      simp only [Blk.cells]
      rw [List.getElem?_append_left hl]; exact hi
    · cases hi
  · rw [h]; simp [Blk.cells]; omega
/-- A slice that is owned, or was: what it holds. -/
def pblk (B : List PB) (b : Nat) : Option (Nat × List PV) :=
  match B[b]? with
  | some (.gs true es l) => some (es, l)
  | some (.fz es l) => some (es, l)
  | _ => none
theorem pblk_ok (h : HR L H B) {b es : Nat} {l : List PV} (hb : pblk B b = some (es, l)) : (Rc L.F H (.vs 2 es l) (L.m b) ∧ l = []) ∨ ∃ X, GsX L.F H es l (L.m b) X := by
  unfold pblk at hb
  split at hb
  · rename_i he
    simp only [Option.some.injEq, Prod.mk.injEq] at hb
    obtain ⟨rfl, rfl⟩ := hb
    obtain ⟨⟨h1, h2⟩ | ⟨X, _, h1⟩, _⟩ := h.bk _ _ he
    · exact .inl ⟨h1, h2 rfl⟩
    · exact .inr ⟨X, h1⟩
  · rename_i he
    simp only [Option.some.injEq, Prod.mk.injEq] at hb
    obtain ⟨rfl, rfl⟩ := hb
    obtain ⟨⟨h1, h2⟩ | ⟨X, _, h1⟩, _⟩ := h.bk _ _ he
    · exact .inl ⟨h1, h2⟩
    · exact .inr ⟨X, h1⟩
  · cases hb
theorem GsX.bk {F : Nat → Prop} {es : Nat} {l : List PV} {a : AV} {X : Nat} (h : GsX F H es l a X) : a.bk = some X := by
  obtain ⟨_, _, _, _, _, ⟨rfl, _⟩ | ⟨_, _, rfl, _⟩⟩ := h <;> rfl
theorem GsX.sl {F : Nat → Prop} {es : Nat} {l : List PV} {a : AV} {X : Nat} (h : GsX F H es l a X) : ∃ cs, Sl H es a l.length cs ∧ RcE F H es l cs := by
  obtain ⟨cs, sp, h1, h2, h3, h4⟩ := h
  have hr : ∀ (i : Nat) v, cs[i]? = some v → (H.g X).cells[0 + i]? = some v := fun i v hi => by
    rw [h2, Nat.zero_add]
    simp only [Blk.cells]
    rw [List.getElem?_append_left (List.getElem?_eq_some_iff.1 hi).1]; exact hi
  have hl : 0 + cs.length ≤ (H.g X).cells.length := by rw [h2]; simp [Blk.cells]
  rcases h4 with ⟨rfl, h5⟩ | ⟨c, h5, rfl, _⟩
  · exact ⟨cs, .sg h1 hr hl (by rw [h2]; rfl) h3.len h5, h3⟩
  · exact ⟨cs, .sl h1 hr hl h3.len h5, h3⟩

/-! ### Loads -/
/-- The cells at a place: where they begin, and what they are. -/
def pcells (B : List PB) : PV → Option (List PV × Nat)
  | .pt b o => match B[b]? with | some (.va l) => some (l, o) | some (.fv l) => some (l, o) | _ => none
  | .pe l o => some (l, o)
  | .pg es b i o => (pblk B b).bind fun p => if p.1 = es then (p.2[i]?).bind fun e => e.cl.bind fun c => if c.length = es then some (c, o) else none else none
  | _ => none
theorem pcells_ok (h : HR L H B) {x : PV} {a : AV} (hx : Rp L H x a) {l : List PV} {o : Nat} (hc : pcells B x = some (l, o)) : ∃ X q cs, a = .pt X (q + o) ∧ Rd H X q cs ∧ RpL L H l cs := by
  unfold pcells at hc
  split at hc
  · rename_i b o'
    obtain ⟨h0, X, hm, rfl⟩ := hx
    split at hc
    · rename_i l' he
      simp only [Option.some.injEq, Prod.mk.injEq] at hc
      obtain ⟨rfl, rfl⟩ := hc
      obtain ⟨X', cs, h1, h2, h3, h4, h5⟩ := h.bk _ _ he
      rw [hm] at h1
      simp only [AV.pt.injEq, and_true] at h1
      subst h1
      refine ⟨X, 0, cs, by rw [Nat.zero_add], ⟨fun i v hi => ?_, ?_⟩, h5⟩
      · rw [h4, Nat.zero_add]; exact hi
      · rw [h4]; simp [Blk.cells]
    · rename_i l' he
      simp only [Option.some.injEq, Prod.mk.injEq] at hc
      obtain ⟨rfl, rfl⟩ := hc
      obtain ⟨⟨X', q, cs, h1, h2, h3, h4⟩, _⟩ := h.bk _ _ he
      rw [hm] at h1
      simp only [AV.pt.injEq] at h1
      obtain ⟨rfl, h1⟩ := h1
      obtain rfl : q = 0 := by omega
      exact ⟨X, 0, cs, by rw [Nat.zero_add], h3, RcL.p _ h4⟩
    · cases hc
  · simp only [Option.some.injEq, Prod.mk.injEq] at hc
    obtain ⟨rfl, rfl⟩ := hc
    obtain ⟨X, q, cs, rfl, h2, h3, h4⟩ := hx
    exact ⟨X, q, cs, rfl, h3, RcL.p _ h4⟩
  · rename_i es b i o'
    obtain ⟨h0, X, hm, rfl⟩ := hx
    simp only [Option.bind_eq_some_iff] at hc
    obtain ⟨⟨es', l'⟩, hb, hc⟩ := hc
    split at hc
    · rename_i he
      simp only at he; subst he
      simp only [Option.bind_eq_some_iff] at hc
      obtain ⟨e, he, c, hcl, hc⟩ := hc
      split at hc
      · rename_i hlen
        simp only [Option.some.injEq, Prod.mk.injEq] at hc
        obtain ⟨rfl, rfl⟩ := hc
        rcases pblk_ok h hb with ⟨_, h1⟩ | ⟨X', h1⟩
        · rw [h1] at he; simp at he
        · have hX := h1.bk
          rw [hm] at hX
          simp only [Option.some.injEq] at hX; subst hX
          obtain ⟨cs, sp, h2, h3, h4, _⟩ := h1
          obtain ⟨a, r1, r2, r3, r4⟩ := h4.elt he
          obtain ⟨c', hc', hr⟩ := r1.cl hcl
          rw [r2] at hc'
          simp only [Option.some.injEq] at hc'; subst hc'
          exact ⟨X, i * es', _, rfl, Rd.of h3 _ _ (by omega), RcL.p _ hr⟩
      · cases hc
    · cases hc
  · cases hc
def pld (n : Nat) (B : List PB) (x : PV) : Option PV := (pcells B x).bind fun p => psub p.1 p.2 n
def pld1 (B : List PB) (x : PV) : Option PV := (pcells B x).bind fun p => p.1[p.2]?
theorem pld_ok (h : HR L H B) {n : Nat} {x v : PV} {a : AV} (hx : Rp L H x a) (hv : pld n B x = some v) : ∃ c, vld n H a = some c ∧ Rp L H v c := by
  simp only [pld, Option.bind_eq_some_iff] at hv
  obtain ⟨⟨l, o⟩, hp, hv⟩ := hv
  obtain ⟨X, q, cs, rfl, h1, h2⟩ := pcells_ok h hx hp
  simp only [psub] at hv
  split at hv
  · rename_i hle
    simp only [Option.some.injEq] at hv; subst hv
    refine ⟨.ag ((cs.drop o).take n), ?_, ⟨_, rfl, (h2.drop o).take n⟩⟩
    simp only [vld, h1.sub o n (by rw [h2.len]; exact hle), Option.map_some]
  · cases hv
theorem pld1_ok (h : HR L H B) {x v : PV} {a : AV} (hx : Rp L H x a) (hv : pld1 B x = some v) : ∃ c, vld1 H a = some c ∧ Rp L H v c := by
  simp only [pld1, Option.bind_eq_some_iff] at hv
  obtain ⟨⟨l, o⟩, hp, hv⟩ := hv
  obtain ⟨X, q, cs, rfl, h1, h2⟩ := pcells_ok h hx hp
  obtain ⟨a, h3, h4⟩ := h2.get hv
  exact ⟨a, h1.1 o a h3, h4⟩

/-! ### Elements -/
def pia (es : Nat) (B : List PB) : PV → PV → Option PV
  | .vs _ es' l, .it _ i => if 0 ≤ i ∧ i < l.length ∧ es' = es then (l[i.toNat]?).bind fun e => e.cl.map fun c => .pe c 0 else none
  | .gr b, .it _ i => (pblk B b).bind fun p => if 0 ≤ i ∧ i < p.2.length ∧ p.1 = es then some (.pg es b i.toNat 0) else none
  | .gp es' b lo n, .it _ i => (pblk B b).bind fun p => if 0 ≤ i ∧ i < n ∧ p.1 = es ∧ es' = es ∧ lo + n ≤ p.2.length then some (.pg es b (lo + i.toNat) 0) else none
  | _, _ => none
theorem pia_ok (h : HR L H B) {es : Nat} {x y v : PV} {a c : AV} (hx : Rp L H x a) (hy : Rp L H y c) (hv : pia es B x y = some v) : ∃ d, via es H a c = some d ∧ Rp L H v d := by
  unfold pia at hv
  split at hv
  · rename_i es' l k i
    simp only [Rp] at hy; subst hy
    split at hv
    · rename_i hcnd
      obtain ⟨hi0, hi, rfl⟩ := hcnd
      simp only [Option.bind_eq_some_iff, Option.map_eq_some_iff] at hv
      obtain ⟨e, he, c, hcl, rfl⟩ := hv
      obtain ⟨⟨cs, h1, h2, h3⟩, _⟩ := hx
      obtain ⟨a', r1, r2, r3, r4⟩ := h3.elt he
      obtain ⟨c', hc', hr⟩ := r1.cl hcl
      rw [r2] at hc'
      simp only [Option.some.injEq] at hc'; subst hc'
      generalize hlen : l.length = n at *
      cases h1 with
      | sn => omega
      | @sl X o _ cp _ g1 g2 g3 g4 g5 =>
        refine ⟨.pt X (o + i.toNat * es'), by simp only [via]; rw [if_pos ⟨hi0, hi⟩], ?_⟩
        refine ⟨X, o + i.toNat * es', _, by rw [Nat.add_zero], h2 X rfl, ⟨fun t u hu => ?_, by omega⟩, hr⟩
        rw [List.getElem?_take] at hu
        split at hu
        · rw [List.getElem?_drop] at hu
          rw [Nat.add_assoc]; exact g2 _ u hu
        · cases hu
      | @sg X o q _ _ g1 g2 g3 g4 g5 g6 =>
        refine ⟨.pt X (o + i.toNat * es'), by simp only [via]; rw [if_pos ⟨trivial, g6, by omega, g4, hi0, hi⟩], ?_⟩
        refine ⟨X, o + i.toNat * es', _, by rw [Nat.add_zero], h2 X rfl, ⟨fun t u hu => ?_, by omega⟩, hr⟩
        rw [List.getElem?_take] at hu
        split at hu
        · rw [List.getElem?_drop] at hu
          rw [Nat.add_assoc]; exact g2 _ u hu
        · cases hu
    · cases hv
  · rename_i b k i
    simp only [Rp] at hy; subst hy
    obtain ⟨h0, rfl, _⟩ := hx
    simp only [Option.bind_eq_some_iff] at hv
    obtain ⟨⟨es', l⟩, hb, hv⟩ := hv
    split at hv
    · rename_i hcnd
      obtain ⟨hi0, hi, rfl⟩ := hcnd
      simp only [Option.some.injEq] at hv; subst hv
      simp only at hi
      rcases pblk_ok h hb with ⟨_, h1⟩ | ⟨X, h1⟩
      · rw [h1] at hi; simp at hi; omega
      · have hX := h1.bk
        obtain ⟨cs, sp, h2, h3, h4, h5⟩ := h1
        have hl := h4.len
        refine ⟨.pt X (i.toNat * es'), ?_, h0, X, hX, rfl⟩
        rcases h5 with ⟨h5, h6⟩ | ⟨cp, h6, h5, _⟩
        · rw [h5]; simp only [via]
          rw [if_pos ⟨trivial, h6, by rw [h3]; simp [Blk.cells]; omega, by rw [h3]; rfl, hi0, hi⟩, Nat.zero_add]
        · rw [h5]; simp only [via]
          rw [if_pos ⟨hi0, hi⟩, Nat.zero_add]
    · cases hv
  · rename_i es' b lo n k i
    simp only [Rp] at hy; subst hy
    obtain ⟨h0, hx⟩ := hx
    simp only [Option.bind_eq_some_iff] at hv
    obtain ⟨⟨es2, l⟩, hb, hv⟩ := hv
    split at hv
    · rename_i hcnd
      obtain ⟨hi0, hi, h7, rfl, hle⟩ := hcnd
      simp only at h7 hle; subst h7
      simp only [Option.some.injEq] at hv; subst hv
      have hin : n ≠ 0 := by omega
      have hlo : lo + n ≤ l.length := hle
      rcases pblk_ok h hb with ⟨_, h1⟩ | ⟨X, h1⟩
      · rw [h1] at hlo; simp at hlo; omega
      · have hX := h1.bk
        obtain ⟨cs, sp, h2, h3, h4, h5⟩ := h1
        have hl := h4.len
        have hmul : lo * es2 + n * es2 ≤ cs.length := by rw [hl, ← Nat.add_mul]; exact Nat.mul_le_mul_right _ hlo
        refine ⟨.pt X ((lo + i.toNat) * es2), ?_, h0, X, hX, rfl⟩
        rcases hx with ⟨h9, _⟩ | ⟨X', hX', ⟨o, cp, rfl, h9, h10⟩ | ⟨o, q, n0, rfl, hes, h10, _⟩⟩
        · omega
        · rw [hX] at hX'; simp only [Option.some.injEq] at hX'; subst hX'
          simp only [via]
          rw [if_pos ⟨hi0, hi⟩, h10.resolve_left (fun h => hin h.1), Nat.add_mul]
        · rw [hX] at hX'; simp only [Option.some.injEq] at hX'; subst hX'
          simp only [via]
          rw [if_pos ⟨trivial, hes, by rw [h10, h3]; simp [Blk.cells]; omega, by rw [h3]; rfl, hi0, hi⟩, h10, Nat.add_mul]
    · cases hv
  · cases hv
end
end Go.AX
