/- AY, part H: every operation; names, resolved and renamed. -/
import Derived.Test.YtjmknbbipadjbaaAyG
set_option linter.unusedSimpArgs false
set_option linter.unusedVariables false
namespace Go.AX
open Go

section
variable {L L' : Lk} {H H' : AH} {B B' : List PB} {E : Nat → PV} {Ea : Env}
def pbsl (B : List PB) (n : Nat) (l : List PV) : Option (PV × List PB) :=
  if n = 0 then (if l.length = 0 then some (.vs 2 0 [], B) else none) else if PV.scaL l = true ∧ l.length = n * (l.length / n) then some (.gr B.length, B ++ [.gs true (l.length / n) (chunk n (l.length / n) l)]) else none
def pmks (B : List PB) (bytes : Nat) (z : List PV) : PV → PV → Option (PV × List PB)
  | .it _ l, .it _ c => if (0 ≤ l ∧ l ≤ c ∧ c ≤ 9223372036854775807 ∧ (bytes : Int) * c ≤ 140737488355328) ∧ PV.scaL z = true then some (.gr B.length, B ++ [.gs true z.length (List.replicate l.toNat (elemOf z))]) else none
  | _, _ => none
def pop : VOp → (Nat → PV) → List PB → Option (PV × List PB)
  | .alloc z, _, B => some (.pt B.length 0, B ++ [.va (z.map ofAV)])
  | .box x, E, B => (pev E x).cl.map fun l => (.pt B.length 0, B ++ [.va l])
  | .bsl n z ps, E, B => (pfill E (z.map ofAV) ps).bind fun l => pbsl B n l
  | .mks bytes z l c, E, B => pmks B bytes (z.map ofAV) (pev E l) (pev E c)
  | .sto n a x, E, B => psto n B (pev E a) (pev E x)
  | .app es bytes s x, E, B => (pcont es B (pev E x)).bind fun m => papp es bytes B (pev E s) m
  | vo, E, B => (pvop E B vo).map (·, B)
def tch (E : Nat → PV) : VOp → List Nat
  | .sto _ a _ => ptch (pev E a)
  | .app _ _ s _ => ptch (pev E s)
  | _ => []
theorem Did.same (h : HR L H B) {r : Option (AV × AH)} {v : PV} {c : AV} {T : List Nat} (hr : r = some (c, H)) (hv : Rp L H v c) : Did L H B r v B T c H L := ⟨hr, .refl, h, hv, fun _ _ _ => rfl⟩
theorem flat_rep {z : List AV} : ∀ n, ((List.replicate n z).flatten).length = n * z.length
  | 0 => by simp
  | n + 1 => by simp only [List.replicate_succ, List.flatten_cons, List.length_append, flat_rep n, Nat.add_mul]; omega
theorem RcL_ofAV {F : Nat → Prop} : ∀ (z : List AV), RcL F H (z.map ofAV) z
  | [] => by simp [RcL]
  | v :: r => ⟨v, r, rfl, Rc_of v, RcL_ofAV r⟩
theorem pop_ok (h : HR L H B) (hE : ER L H E Ea) {vo : VOp} {v : PV} (hv : pop vo E B = some (v, B')) : ∃ c H' L', Did L H B (vop vo Ea H) v B' (tch E vo) c H' L' := by
  unfold pop at hv
  split at hv
  · simp only [Option.some.injEq, Prod.mk.injEq] at hv
    obtain ⟨rfl, rfl⟩ := hv
    exact ⟨_, _, _, did_va h rfl (RpL_ofAV _)⟩
  · obtain ⟨l, hl, hv⟩ := Option.map_eq_some_iff.1 hv
    simp only [Prod.mk.injEq] at hv
    obtain ⟨rfl, rfl⟩ := hv
    obtain ⟨c, h1, h2⟩ := (Rp_ev hE _).cl hl
    exact ⟨_, _, _, did_va h (by simp only [vop, h1, Option.map_some]) h2⟩
  · rename_i _ _ n z ps
    simp only [Option.bind_eq_some_iff] at hv
    obtain ⟨l, hl, hv⟩ := hv
    obtain ⟨l', h1, h2⟩ := pfill_ok hE _ (RpL_ofAV _) hl
    unfold pbsl at hv
    split at hv
    · rename_i hn; subst hn
      split at hv
      · rename_i hl0
        simp only [Option.some.injEq, Prod.mk.injEq] at hv
        obtain ⟨rfl, rfl⟩ := hv
        have : l' = [] := List.eq_nil_of_length_eq_zero (by rw [h2.len]; exact hl0)
        subst this
        exact ⟨_, _, _, did_em h (by simp only [vop, h1, Option.map_some])⟩
      · cases hv
    · rename_i hn
      split at hv
      · rename_i hcnd
        simp only [Option.some.injEq, Prod.mk.injEq] at hv
        obtain ⟨rfl, rfl⟩ := hv
        have hc := chunk_ok (RpL.c l (scaL_cldL hcnd.1) h2) hcnd.1 hcnd.2
        exact ⟨_, _, _, did_gs h (sp := []) (c := n) (by simp only [vop, h1, Option.map_some, chunk_len, List.append_nil]) hc (by rw [chunk_len]; omega) (by rw [chunk_len]; simp)⟩
      · cases hv
  · rename_i _ _ bytes z l c
    have hl := Rp_ev hE l
    have hc := Rp_ev hE c
    unfold pmks at hv
    split at hv
    · rename_i k i k' j e1 e2
      rw [e1] at hl; rw [e2] at hc
      simp only [Rp] at hl hc
      split at hv
      · rename_i hcnd
        obtain ⟨⟨c1, c2, c3, c4⟩, c5⟩ := hcnd
        simp only [Option.some.injEq, Prod.mk.injEq] at hv
        obtain ⟨rfl, rfl⟩ := hv
        have hrep := rep_ok (F := L.F) (RcL_ofAV (H := H) z) c5 i.toNat
        have hzl : (z.map ofAV).length = z.length := by simp
        have hsplit : (List.replicate j.toNat z).flatten = (List.replicate i.toNat z).flatten ++ (List.replicate (j.toNat - i.toNat) z).flatten := by
          rw [← List.flatten_append, List.replicate_append_replicate]
          congr 2; omega
        have hr : vop (.mks bytes z l c) Ea H = some (.sl H.nx 0 (List.replicate i.toNat (elemOf (z.map ofAV))).length j.toNat, H.al ((List.replicate i.toNat z).flatten ++ (List.replicate (j.toNat - i.toNat) z).flatten)) := by
          simp only [vop, hl, hc, vmks]
          rw [if_pos ⟨c1, c2, c3, c4⟩, hsplit]
          simp
        exact ⟨_, _, _, did_gs h hr hrep (by simp; omega) (by rw [flat_rep, List.length_replicate, hzl])⟩
      · cases hv
    · cases hv
  · exact psto_ok h (Rp_ev hE _) (Rp_ev hE _) hv
  · simp only [Option.bind_eq_some_iff] at hv
    obtain ⟨m, hm, hv⟩ := hv
    obtain ⟨cs, h1, h2⟩ := pcont_ok h (Rp_ev hE _) hm
    obtain ⟨e, H', L', d⟩ := papp_ok h (Rp_ev hE _) h2 hv
    refine ⟨e, H', L', ⟨?_, d.ev, d.hr, d.rp, d.un⟩⟩
    simp only [vop, h1, Option.bind_some]
    exact d.eq
  · obtain ⟨u, hu, hv⟩ := Option.map_eq_some_iff.1 hv
    simp only [Prod.mk.injEq] at hv
    obtain ⟨rfl, rfl⟩ := hv
    obtain ⟨c, h1, h2⟩ := pvop_ok h hE hu
    exact ⟨c, H, L, Did.same h h1 h2⟩

/-! ### Names, renamed -/
mutual
def PV.ren (r : Nat → Nat) : PV → PV
  | .pt b o => .pt (r b) o
  | .pg es b i o => .pg es (r b) i o
  | .gr b => .gr (r b)
  | .gp es b lo n => .gp es (r b) lo n
  | .fn f p c => .fn f (PV.renL r p) (PV.renL r c)
  | .fc t v => .fc t (v.ren r)
  | .ag l => .ag (PV.renL r l)
  | .tu l => .tu (PV.renL r l)
  | .bo x => .bo x
  | .it k n => .it k n
  | .st x => .st x
  | .np => .np
  | .nf => .nf
  | .ni => .ni
  | .sn => .sn
  | .dd => .dd
  | .vs w es l => .vs w es l
  | .pe l o => .pe l o
def PV.renL (r : Nat → Nat) : List PV → List PV
  | [] => []
  | v :: l => v.ren r :: PV.renL r l
end
def PB.ren (r : Nat → Nat) : PB → PB
  | .va l => .va (PV.renL r l)
  | p => p
/-- Names of one place are names of another one. -/
structure Sub (r : Nat → Nat) (L L' : Lk) : Prop where
  n : ∀ b, b < L.n → r b < L'.n
  m : ∀ b, b < L.n → L'.m (r b) = L.m b
  F : ∀ X, L'.F X ↔ L.F X
mutual
theorem Rp.ren {r : Nat → Nat} (s : Sub r L L') : ∀ (v : PV) {a : AV}, Rp L H v a → Rp L' H (v.ren r) a
  | .bo _, _, h | .it _ _, _, h | .st _, _, h | .np, _, h | .nf, _, h | .ni, _, h | .sn, _, h => h
  | .dd, _, _ => trivial
  | .vs w es l, _, h => by
    have : L'.F = L.F := funext fun X => propext (s.F X)
    show Rc L'.F H _ _
    rw [this]; exact h
  | .pe l o, _, h => by
    have : L'.F = L.F := funext fun X => propext (s.F X)
    show Rc L'.F H _ _
    rw [this]; exact h
  | .fn f p c, _, ⟨p', c', h1, h2, h3⟩ => ⟨p', c', h1, RpL.ren s p h2, RpL.ren s c h3⟩
  | .fc t v, _, ⟨v', h1, h2⟩ => ⟨v', h1, Rp.ren s v h2⟩
  | .ag l, _, ⟨l', h1, h2⟩ => ⟨l', h1, RpL.ren s l h2⟩
  | .tu l, _, ⟨l', h1, h2⟩ => ⟨l', h1, RpL.ren s l h2⟩
  | .pt b o, _, ⟨h0, h⟩ => ⟨s.n b h0, by rw [s.m b h0]; exact h⟩
  | .pg es b i o, _, ⟨h0, h⟩ => ⟨s.n b h0, by rw [s.m b h0]; exact h⟩
  | .gr b, _, ⟨h0, h⟩ => ⟨s.n b h0, by rw [s.m b h0]; exact h⟩
  | .gp es b lo n, _, ⟨h0, h⟩ => ⟨s.n b h0, by
      have : L'.F = L.F := funext fun X => propext (s.F X)
      rw [s.m b h0, this]; exact h⟩
theorem RpL.ren {r : Nat → Nat} (s : Sub r L L') : ∀ (l : List PV) {as : List AV}, RpL L H l as → RpL L' H (PV.renL r l) as
  | [], _, h => h
  | v :: l, _, ⟨a, l', h1, h2, h3⟩ => ⟨a, l', h1, Rp.ren s v h2, RpL.ren s l h3⟩
end
mutual
/-- Does it name blocks below n alone? -/
def PV.bel (n : Nat) : PV → Bool
  | .pt b _ => decide (b < n)
  | .pg _ b _ _ => decide (b < n)
  | .gr b => decide (b < n)
  | .gp _ b _ _ => decide (b < n)
  | .fn _ p c => PV.belL n p && PV.belL n c
  | .fc _ v => v.bel n
  | .ag l => PV.belL n l
  | .tu l => PV.belL n l
  | _ => true
def PV.belL (n : Nat) : List PV → Bool
  | [] => true
  | v :: l => v.bel n && PV.belL n l
end
def PB.bel (n : Nat) : PB → Bool
  | .va l => PV.belL n l
  | _ => true
mutual
theorem Rp.unren {r : Nat → Nat} (s : Sub r L L') : ∀ (v : PV) {a : AV}, v.bel L.n = true → Rp L' H (v.ren r) a → Rp L H v a
  | .bo _, _, _, h | .it _ _, _, _, h | .st _, _, _, h | .np, _, _, h | .nf, _, _, h | .ni, _, _, h | .sn, _, _, h => h
  | .dd, _, _, _ => trivial
  | .vs w es l, _, _, h => by
    have : L'.F = L.F := funext fun X => propext (s.F X)
    show Rc L.F H _ _
    rw [← this]; exact h
  | .pe l o, _, _, h => by
    have : L'.F = L.F := funext fun X => propext (s.F X)
    show Rc L.F H _ _
    rw [← this]; exact h
  | .fn f p c, _, hb, ⟨p', c', h1, h2, h3⟩ => by
    simp only [PV.bel, Bool.and_eq_true] at hb
    exact ⟨p', c', h1, RpL.unren s p hb.1 h2, RpL.unren s c hb.2 h3⟩
  | .fc t v, _, hb, ⟨v', h1, h2⟩ => by
    simp only [PV.bel] at hb
    exact ⟨v', h1, Rp.unren s v hb h2⟩
  | .ag l, _, hb, ⟨l', h1, h2⟩ => by
    simp only [PV.bel] at hb
    exact ⟨l', h1, RpL.unren s l hb h2⟩
  | .tu l, _, hb, ⟨l', h1, h2⟩ => by
    simp only [PV.bel] at hb
    exact ⟨l', h1, RpL.unren s l hb h2⟩
  | .pt b o, _, hb, ⟨_, h⟩ => by
    simp only [PV.bel, decide_eq_true_eq] at hb
    exact ⟨hb, by rw [← s.m b hb]; exact h⟩
  | .pg es b i o, _, hb, ⟨_, h⟩ => by
    simp only [PV.bel, decide_eq_true_eq] at hb
    exact ⟨hb, by rw [← s.m b hb]; exact h⟩
  | .gr b, _, hb, ⟨_, h⟩ => by
    simp only [PV.bel, decide_eq_true_eq] at hb
    exact ⟨hb, by rw [← s.m b hb]; exact h⟩
  | .gp es b lo n, _, hb, ⟨_, h⟩ => by
    simp only [PV.bel, decide_eq_true_eq] at hb
    have : L'.F = L.F := funext fun X => propext (s.F X)
    exact ⟨hb, by rw [← s.m b hb, ← this]; exact h⟩
theorem RpL.unren {r : Nat → Nat} (s : Sub r L L') : ∀ (l : List PV) {as : List AV}, PV.belL L.n l = true → RpL L' H (PV.renL r l) as → RpL L H l as
  | [], _, _, h => h
  | v :: l, _, hb, ⟨a, l', h1, h2, h3⟩ => by
    simp only [PV.belL, Bool.and_eq_true] at hb
    exact ⟨a, l', h1, Rp.unren s v hb.1 h2, RpL.unren s l hb.2 h3⟩
end
theorem BkR.ren {r : Nat → Nat} (s : Sub r L L') {p : PB} {a : AV} (h : BkR L H p a) : BkR L' H (p.ren r) a := by
  have e : L'.F = L.F := funext fun X => propext (s.F X)
  cases p with
  | no => trivial
  | va l =>
    obtain ⟨X, cs, rfl, h2, h3, h4, h5⟩ := h
    exact ⟨X, cs, rfl, h2, by rw [e]; exact h3, h4, RpL.ren s _ h5⟩
  | fv l => simp only [PB.ren, BkR]; rw [e]; exact h
  | gs w es l => simp only [PB.ren, BkR, GsR]; rw [e]; exact h
  | fz es l => simp only [PB.ren, BkR]; rw [e]; exact h
theorem BkR.unren {r : Nat → Nat} (s : Sub r L L') {p : PB} {a : AV} (hb : p.bel L.n = true) (h : BkR L' H (p.ren r) a) : BkR L H p a := by
  have e : L'.F = L.F := funext fun X => propext (s.F X)
  cases p with
  | no => trivial
  | va l =>
    obtain ⟨X, cs, rfl, h2, h3, h4, h5⟩ := h
    exact ⟨X, cs, rfl, h2, by rw [← e]; exact h3, h4, RpL.unren s _ hb h5⟩
  | fv l => simp only [PB.ren, BkR] at h; rw [e] at h; exact h
  | gs w es l => simp only [PB.ren, BkR, GsR] at h; rw [e] at h; exact h
  | fz es l => simp only [PB.ren, BkR] at h; rw [e] at h; exact h

/-! ### Names, resolved -/
mutual
/-- What a value is, told with no names: so deep, what is one's own is taken, too. -/
def PV.res (B : List PB) : Nat → PV → Option PV
  | 0, .bo x => some (.bo x)
  | 0, .it k n => some (.it k n)
  | 0, _ => none
  | d + 1, .pt b o => match B[b]? with
    | some (.fv l) => some (.pe l o)
    | some (.va l) => (PV.resL B d l).map fun l => .pe l o
    | _ => none
  | d + 1, .pg es b i o => (pblk B b).bind fun p => if p.1 = es then (p.2[i]?).bind fun e => e.cl.bind fun c => if c.length = es then some (.pe c o) else none else none
  | d + 1, .gr b => match B[b]? with
    | some (.gs _ es l) => some (.vs 1 es l)
    | some (.fz es l) => some (.vs 1 es l)
    | _ => none
  | d + 1, .gp es b lo n => (pblk B b).bind fun p => if p.1 = es ∧ lo + n ≤ p.2.length then some (.vs 0 es ((p.2.drop lo).take n)) else none
  | d + 1, .fn f p c => (PV.resL B d p).bind fun p => (PV.resL B d c).map fun c => .fn f p c
  | d + 1, .fc t v => (PV.res B d v).map (.fc t)
  | d + 1, .ag l => (PV.resL B d l).map .ag
  | d + 1, .tu l => (PV.resL B d l).map .tu
  | _ + 1, .bo x => some (.bo x)
  | _ + 1, .it k n => some (.it k n)
  | _ + 1, .st x => some (.st x)
  | _ + 1, .np => some .np
  | _ + 1, .nf => some .nf
  | _ + 1, .ni => some .ni
  | _ + 1, .sn => some .sn
  | _ + 1, .dd => some .dd
  | _ + 1, .vs w es l => some (.vs w es l)
  | _ + 1, .pe l o => some (.pe l o)
def PV.resL (B : List PB) : Nat → List PV → Option (List PV)
  | _, [] => some []
  | 0, _ :: _ => none
  | d + 1, v :: r => (PV.res B d v).bind fun v => (PV.resL B (d + 1) r).map (v :: ·)
end
end
end Go.AX
