/- AY, part K: regions that draw their order. -/
import Derived.Test.YtjmknbbipadjbaaAyJ
set_option linter.unusedSimpArgs false
set_option linter.unusedVariables false
namespace Go.AX
open Go

theorem stable_ext {vo : VOp} {E : Env} {H H' : AH} {v : AV} (hc : vo.cls = 0) (hg : ∀ b, H.g b ≠ .no → H'.g b = H.g b) (h : vop vo E H = some (v, H)) : vop vo E H' = some (v, H') := by
  by_cases hp : vo.pure = true
  · exact pure_any hp h
  · cases vo <;> first
      | exact absurd hc (show ¬ ((1 : Nat) = 0) by decide)
      | exact absurd hc (show ¬ ((2 : Nat) = 0) by decide)
      | exact absurd rfl hp
      | skip
    case ld n x =>
      have h1 := (map_pair h).1
      simp only [vop]
      have : vld n H' (ev E x) = some v := by
        cases hx : ev E x <;> rw [hx] at h1 <;> simp only [vld, reduceCtorEq] at h1 ⊢
        rename_i b o
        obtain ⟨m, hm, rfl⟩ := Option.map_eq_some_iff.1 h1
        refine Option.map_eq_some_iff.2 ⟨m, ?_, rfl⟩
        unfold AH.rd at hm ⊢
        split at hm
        · rename_i hle
          simp only [Option.some.injEq] at hm; subst hm
          by_cases hb : H.g b = .no
          · rw [hb] at hle
            simp only [Blk.cells, List.length_nil, Nat.le_zero_eq, Nat.add_eq_zero_iff] at hle
            obtain ⟨rfl, rfl⟩ := hle
            simp [hb, Blk.cells]
          · rw [hg b hb, if_pos hle]
        · cases hm
      rw [this]; rfl
    case ld1 x =>
      have h1 := (map_pair h).1
      simp only [vop]
      have : vld1 H' (ev E x) = some v := by
        cases hx : ev E x <;> rw [hx] at h1 <;> simp only [vld1, reduceCtorEq] at h1 ⊢
        rename_i b o
        have hb : H.g b ≠ .no := fun e => by rw [e] at h1; simp [Blk.cells] at h1
        rw [hg b hb]; exact h1
      rw [this]; rfl
    case cvsame x =>
      have h1 := (map_pair h).1
      simp only [vop]
      have : vcvsame H' (ev E x) = some v := by
        cases hx : ev E x <;> rw [hx] at h1 <;> simp only [vcvsame, reduceCtorEq] at h1 ⊢
        rename_i b o n c
        split at h1
        · rename_i ho
          have hb : H.g b ≠ .no := fun e => by rw [e] at ho; simp [Blk.own] at ho
          rw [hg b hb, if_pos ho]; exact h1
        · cases h1
      rw [this]; rfl
    case slc es x lo hi mx =>
      have h1 := (map_pair h).1
      simp only [vop]
      have : vslc es H' E (ev E x) lo hi mx = some v := by
        cases hx : ev E x <;> rw [hx] at h1 <;> simp only [vslc, reduceCtorEq] at h1 ⊢
        · exact h1
        · exact h1
        · rename_i b o q n es'
          split at h1
          · rename_i hc
            have hb : H.g b ≠ .no := fun e => by have := hc.2.2.2; rw [e] at this; simp [Blk.isRw] at this
            rw [hg b hb, if_pos hc]; exact h1
          · cases h1
      rw [this]; rfl
    case ia es x i =>
      have h1 := (map_pair h).1
      simp only [vop]
      have : via es H' (ev E x) (ev E i) = some v := by
        cases hx : ev E x <;> cases hi : ev E i <;> rw [hx, hi] at h1 <;> simp only [via, reduceCtorEq] at h1 ⊢
        · exact h1
        · rename_i b o q n es' k ii
          split at h1
          · rename_i hc
            have hb : H.g b ≠ .no := fun e => by have := hc.2.2.2.1; rw [e] at this; simp [Blk.isRw] at this
            rw [hg b hb, if_pos hc]; exact h1
          · cases h1
      rw [this]; rfl
    case len k x =>
      have h1 := (map_pair h).1
      simp only [vop]
      have : vlen k H' (ev E x) = some v := by
        generalize ev E x = u at *
        unfold vlen at h1 ⊢
        split
        · exact h1
        · exact h1
        · simp only at h1
          cases u <;> first
            | exact h1
            | skip
          rename_i b
          simp only at h1 ⊢
          cases hb : H.g b <;> rw [hb] at h1 <;> first
            | cases h1
            | skip
          rename_i es
          rw [hg b (by rw [hb]; simp), hb]
          try exact h1
      rw [this]; rfl
    case lkp z ok x i =>
      simp only [vop, Option.bind_eq_some_iff, Option.map_eq_some_iff, Prod.mk.injEq] at h ⊢
      obtain ⟨es, hes, r, hr, h1, _⟩ := h
      refine ⟨es, ?_, r, hr, h1, trivial⟩
      unfold AH.me at hes ⊢
      split at hes
      · exact hes
      · rename_i b hx
        split at hes
        · rename_i es' he
          rw [hg b (by rw [he]; simp), he]; exact hes
        · cases hes
      · cases hes


/-- A region's operations; which earlier ones each looks back at; whether nothing is looked back at from here on. -/
abbrev RL := List (ROper × List Nat × Bool)
def RL.at (l : RL) (p : Nat) : ROper × List Nat × Bool := l.getD p default
def mkR (l : RL) : List DOp := l.map fun x => ⟨x.1, x.2.1.map fun p => (l.at p).1⟩
def backOk (y : ROper) : Bool := y.d.isSome && !y.d.any (fun d => y.reads.contains d) && match y.o with | .v vo => vo.cls != 2 | _ => false
def mkRok (l : RL) : Bool := (List.range l.length).all fun q =>
  (l.at q).2.1.all (fun p => decide (p < q) && backOk (l.at p).1 && (List.range (q + 1)).all fun s => decide (s ≤ p) || !(l.at s).1.d.any fun d => (l.at p).1.names.contains d) &&
  (!(l.at q).2.2 || ((l.at q).2.1.isEmpty && (List.range l.length).all fun q' => decide (q' < q) || (l.at q').2.1.all fun p => decide (q ≤ p)))
/-- Is an operation looked back at, from so far on? -/
def Nd (l : RL) (q p : Nat) : Prop := ∃ q', q ≤ q' ∧ q' < l.length ∧ p ∈ (l.at q').2.1
def FactR (r : ROper) (E : Env) (H : AH) : Prop :=
  gwant E r.g = some false ∨ ∃ vo t, r.o = .v vo ∧ r.d = some t ∧ if vo.cls = 1 then (∃ b, b < H.nx ∧ ((∃ o, E t = .pt b o) ∨ ∃ o n c, E t = .sl b o n c)) else vo.cls = 0 ∧ vop vo E H = some (E t, H)
def Facts (l : RL) (q : Nat) (E : Env) (H : AH) : Prop := ∀ p, p < q → Nd l q p → FactR (l.at p).1 E H

theorem mkRok_at {l : RL} (h : mkRok l = true) {q : Nat} (hq : q < l.length) :
    (∀ p ∈ (l.at q).2.1, p < q ∧ backOk (l.at p).1 = true ∧ ∀ s, p < s → s ≤ q → ∀ d, (l.at s).1.d = some d → d ∉ (l.at p).1.names) ∧
    ((l.at q).2.2 = true → (l.at q).2.1 = [] ∧ ∀ q', q ≤ q' → q' < l.length → ∀ p ∈ (l.at q').2.1, q ≤ p) := by
  have h1 := List.all_eq_true.1 h q (List.mem_range.2 hq)
  simp only [Bool.and_eq_true] at h1
  obtain ⟨h1, h2⟩ := h1
  refine ⟨fun p hp => ?_, fun hc => ?_⟩
  · have h3 := List.all_eq_true.1 h1 p hp
    simp only [Bool.and_eq_true, decide_eq_true_eq] at h3
    obtain ⟨⟨h3, h4⟩, h5⟩ := h3
    refine ⟨h3, h4, fun s hs hsq d hd => ?_⟩
    have h6 := List.all_eq_true.1 h5 s (List.mem_range.2 (by omega))
    simp only [Bool.or_eq_true, decide_eq_true_eq, Bool.not_eq_true'] at h6
    rcases h6 with h6 | h6
    · omega
    · rw [hd] at h6
      simpa using h6
  · rw [hc] at h2
    simp only [Bool.not_true, Bool.false_or, Bool.and_eq_true] at h2
    refine ⟨by simpa using h2.1, fun q' hq' hl p hp => ?_⟩
    have h6 := List.all_eq_true.1 h2.2 q' (List.mem_range.2 hl)
    simp only [Bool.or_eq_true, decide_eq_true_eq] at h6
    rcases h6 with h6 | h6
    · omega
    · have := List.all_eq_true.1 h6 p hp
      simpa using this
theorem reads_sub {r : ROper} {d : Nat} (h : d ∉ r.names) : d ∉ r.reads := fun h' => h (by simp only [ROper.names, List.mem_append]; exact .inr h')
theorem gwant_put {r : ROper} {E : Env} {d : Nat} {v : AV} (h : d ∉ r.reads) : gwant (E.st d v) r.g = gwant E r.g := by
  cases hg : r.g with
  | none => rfl
  | some tb =>
    obtain ⟨t, b⟩ := tb
    have : t ≠ d := fun e => h (by simp [ROper.reads, hg, e])
    simp only [gwant, Env.st, if_neg this]
theorem vop_put {r : ROper} {vo : VOp} {E : Env} {H : AH} {d : Nat} {v : AV} (ho : r.o = .v vo) (h : d ∉ r.reads) : vop vo (E.st d v) H = vop vo E H := by
  refine vop_congr fun x hx => ?_
  cases x with
  | t n =>
    have : n ≠ d := fun e => h (by
      simp only [ROper.reads, List.mem_append]
      right
      rw [ho]
      exact opdT_mem (by rw [← e]; exact hx))
    simp only [ev, Env.st, if_neg this]
  | k v => rfl
  | f n => rfl
theorem FactR.put {r : ROper} {E : Env} {H H' : AH} {d : Option Nat} {v : AV} (h : FactR r E H) (hd : ∀ x, d = some x → x ∉ r.names) (hn : H.nx ≤ H'.nx) (hg : ∀ X, H.g X ≠ .no → H'.g X = H.g X) : FactR r (E.put d v) H' := by
  have hh : FactR r E H' := by
    rcases h with h | ⟨vo, t, h1, h2, h3⟩
    · exact .inl h
    · refine .inr ⟨vo, t, h1, h2, ?_⟩
      split
      · rename_i hc
        rw [if_pos hc] at h3
        obtain ⟨b, h4, h5⟩ := h3
        exact ⟨b, by omega, h5⟩
      · rename_i hc
        rw [if_neg hc] at h3
        exact ⟨h3.1, stable_ext h3.1 hg h3.2⟩
  cases d with
  | none => exact hh
  | some x =>
    have hx := hd x rfl
    have hr := reads_sub hx
    rcases hh with h | ⟨vo, t, h1, h2, h3⟩
    · exact .inl (by simp only [Env.put]; rw [gwant_put hr]; exact h)
    · have ht : t ≠ x := fun e => hx (by simp [ROper.names, h2, e])
      refine .inr ⟨vo, t, h1, h2, ?_⟩
      simp only [Env.put]
      rw [vop_put h1 hr]
      simp only [Env.st, if_neg ht]
      exact h3
theorem FactR.chk {r : ROper} {E : Env} {H H' : AH} {d : Option Nat} {v : AV} (h : FactR r E H) (hd : ∀ x, d = some x → x ∉ r.names) (hn : H.nx ≤ H'.nx) (hg : ∀ X, H.g X ≠ .no → H'.g X = H.g X) (hlt : ∀ X, X < H.nx → H'.g X = H.g X) : Rechk r (E.put d v) H H' := by
  intro u hu
  rcases h with h | ⟨vo, t, g1, g2, g3⟩
  · left
    cases d with
    | none => exact h
    | some x => simp only [Env.put]; rw [gwant_put (reads_sub (hd x rfl))]; exact h
  · right
    rw [g1]
    rw [hu] at g2; simp only [Option.some.injEq] at g2; subst g2
    have he : (E.put d v) u = E u := by
      cases d with
      | none => rfl
      | some x =>
        have : u ≠ x := fun e => hd x rfl (by simp [ROper.names, hu, e])
        simp only [Env.put, Env.st, if_neg this]
    simp only
    rw [he]
    split
    · rename_i hc
      rw [if_pos hc] at g3
      obtain ⟨b, h4, h5⟩ := g3
      rcases h5 with ⟨o, h5⟩ | ⟨o, n, c, h5⟩ <;> (rw [h5]; exact hlt b h4)
    · rename_i hc
      rw [if_neg hc] at g3
      have hvp : vop vo (E.put d v) H' = vop vo E H' := by
        cases d with
        | none => rfl
        | some x => simp only [Env.put]; exact vop_put g1 (reads_sub (hd x rfl))
      rw [hvp]
      exact stable_ext g3.1 hg g3.2

section
variable {P : Program} {K : Nat} {R : PEnd} {k : List It} {E : PE0} {B : List PB} {l : RL} {q : Nat}
theorem RL.lt {x : ROper × List Nat × Bool} {rem : RL} (h : l.drop q = x :: rem) : q < l.length ∧ l.at q = x ∧ l.drop (q + 1) = rem := by
  have hq : q < l.length := by
    rcases Nat.lt_or_ge q l.length with h1 | h1
    · exact h1
    · rw [List.drop_of_length_le h1] at h; cases h
  rw [List.drop_eq_getElem_cons hq] at h
  simp only [List.cons.injEq] at h
  exact ⟨hq, by simp only [RL.at, List.getD_eq_getElem?_getD, List.getElem?_eq_getElem hq, Option.getD_some]; exact h.1, h.2⟩
theorem mkR_drop {x : ROper × List Nat × Bool} {rem : RL} (h : l.drop q = x :: rem) : (mkR l).drop q = ⟨x.1, x.2.1.map fun p => (l.at p).1⟩ :: (mkR l).drop (q + 1) := by
  unfold mkR
  rw [← List.map_drop, ← List.map_drop, h, (RL.lt h).2.2, List.map_cons]
/-- What is behind an operation: the earlier ones still hold, and what it looks back at is so. -/
theorem facts_next {x : ROper × List Nat × Bool} {rem : RL} (hl : l.drop q = x :: rem) (ok : mkRok l = true) {Ea : Env} {H H' : AH} {v : AV} (hF : Facts l q Ea H) (hn : H.nx ≤ H'.nx) (hw : ∀ X, H.nx ≤ X → H.g X = .no)
    (hun : x.2.2 = true ∨ ∀ X, X < H.nx → H'.g X = H.g X) (self : backOk x.1 = true → FactR x.1 (Ea.put x.1.d v) H') :
    Facts l (q + 1) (Ea.put x.1.d v) H' ∧ Rechks (x.2.1.map fun p => (l.at p).1) (Ea.put x.1.d v) H H' := by
  obtain ⟨hq, hx, _⟩ := RL.lt hl
  obtain ⟨m1, m2⟩ := mkRok_at ok hq
  rw [hx] at m1 m2
  have hg : (∀ X, X < H.nx → H'.g X = H.g X) → ∀ X, H.g X ≠ .no → H'.g X = H.g X := fun h X hX => h X (by
    rcases Nat.lt_or_ge X H.nx with h1 | h1
    · exact h1
    · exact absurd (hw X h1) hX)
  refine ⟨fun p hp hnd => ?_, fun r hr => ?_⟩
  · obtain ⟨q', h1, h2, h3⟩ := hnd
    obtain ⟨n1, _⟩ := mkRok_at ok h2
    obtain ⟨n2, n3, n4⟩ := n1 p h3
    by_cases hpq : p = q
    · subst hpq
      rw [hx] at n3 ⊢
      exact self n3
    · have hpq' : p < q := by omega
      rcases hun with hc | hc
      · have := (m2 hc).2 q' (by omega) h2 p h3
        omega
      · refine (hF p hpq' ⟨q', by omega, h2, h3⟩).put (fun d hd => ?_) hn (hg hc)
        have := n4 q hpq' (by omega)
        rw [hx] at this
        exact this d hd
  · obtain ⟨p, hp, rfl⟩ := List.mem_map.1 hr
    obtain ⟨n2, n3, n4⟩ := m1 p hp
    have hds : (l.at p).1.d.isSome = true := by
      unfold backOk at n3
      simp only [Bool.and_eq_true] at n3
      exact n3.1.1
    refine ⟨hds, ?_⟩
    rcases hun with hc | hc
    · rw [(m2 hc).1] at hp; cases hp
    · refine (hF p n2 ⟨q, Nat.le_refl _, hq, by rw [hx]; exact hp⟩).chk (fun d hd => ?_) hn (hg hc) hc
      have := n4 q n2 (Nat.le_refl _)
      rw [hx] at this
      exact this d hd
/-- What is to be shown of the rest of a region that draws. -/
def YR (P : Program) (K : Nat) (R : PEnd) (l : RL) (q : Nat) (rem : RL) (k : List It) (E : PE0) (B : List PB) : Prop :=
  l.drop q = rem → mkRok l = true → ∀ L0 H0 B0 (Rx : Fin), (∀ L H E' B' Ea, Fw K L0 H0 B0 L H B' → K ≤ L.n → HR L H B' → ER L H E' Ea → R none E' B' → Rx .ret Ea H []) →
    (∀ L H E' B' Ea v a, Fw K L0 H0 B0 L H B' → K ≤ L.n → HR L H B' → ER L H E' Ea → Rp L H v a → R (some v) E' B' → Rx (.pan [⟨a, false⟩]) Ea H []) →
    ∀ L H Ea, Fw K L0 H0 B0 L H B → K ≤ L.n → HR L H B → ER L H E Ea → Facts l q Ea H → XD P Rx ((mkR l).drop q) k Ea H []
theorem Y_regd (ok : mkRok l = true) (h : ∀ l', l' = l → YR P K R l' 0 l k E B) : Y P K R (.c (.regd (mkR l)) :: k) E B := by
  intro L0 H0 B0 Rx r1 r2 L H Ea fw hK hR hE
  rw [X_regd]
  have := h l rfl rfl ok L0 H0 B0 Rx r1 r2 L H Ea fw hK hR hE (fun p hp => by omega)
  simpa using this
theorem YR_nil (h : Y P K R k E B) : YR P K R l q [] k E B := by
  intro hl ok L0 H0 B0 Rx r1 r2 L H Ea fw hK hR hE hF
  have : (mkR l).drop q = [] := by
    unfold mkR
    rw [← List.map_drop, hl]; rfl
  rw [this, XD_nil]
  exact h L0 H0 B0 Rx r1 r2 L H Ea fw hK hR hE
theorem cls1_fact {vo : VOp} {E : Env} {H H' : AH} {c : AV} (hc : vo.cls = 1) (h : vop vo E H = some (c, H')) : ∃ b, b < H'.nx ∧ ((∃ o, c = .pt b o) ∨ ∃ o n k, c = .sl b o n k) := by
  obtain ⟨m, rfl, rfl | ⟨n, k, rfl⟩⟩ := cls1_al hc h
  · exact ⟨_, Nat.lt_succ_self _, .inl ⟨_, rfl⟩⟩
  · exact ⟨_, Nat.lt_succ_self _, .inr ⟨_, _, _, rfl⟩⟩
theorem vo_self {r : ROper} {vo : VOp} (ho : r.o = .v vo) {Ea : Env} {H H' : AH} {c : AV} (hv : vop vo Ea H = some (c, H')) : backOk r = true → FactR r (Ea.put r.d c) H' := by
  intro hb
  unfold backOk at hb
  rw [ho] at hb
  simp only [Bool.and_eq_true, bne_iff_ne, ne_eq] at hb
  obtain ⟨⟨h1, h2⟩, h3⟩ := hb
  cases hd : r.d with
  | none => rw [hd] at h1; cases h1
  | some t =>
    rw [hd] at h2
    have hr : t ∉ r.reads := by simpa using h2
    refine .inr ⟨vo, t, ho, hd, ?_⟩
    have he : (Ea.put (some t) c) t = c := by simp [Env.put, Env.st]
    rw [he]
    split
    · rename_i hc
      exact cls1_fact hc hv
    · rename_i hc
      have hc0 : vo.cls = 0 := by
        have : vo.cls = 0 ∨ vo.cls = 1 ∨ vo.cls = 2 := by cases vo <;> simp [VOp.cls]
        omega
      have := cls0 hc0 hv
      subst this
      exact ⟨hc0, by simp only [Env.put]; rw [vop_put ho hr]; exact hv⟩
theorem Did.ext {L L' : Lk} {H H' : AH} {B B' : List PB} {r : Option (AV × AH)} {v : PV} {c : AV} (d : Did L H B r v B' [] c H' L') : ∀ X, X < H.nx → H'.g X = H.g X := fun X hX => d.un X hX fun b hb => by simp at hb
def gval (E : PE0) : Option (Nat × Bool) → Option Bool
  | none => some true
  | some (t, b) => match E t with | .bo c => some (c == b) | .tu [] => some false | _ => none
theorem gval_ok {L : Lk} {H : AH} {Ea : Env} (hE : ER L H E Ea) {g : Option (Nat × Bool)} {x : Bool} (h : gval E g = some x) : gwant Ea g = some x := by
  cases g with
  | none => exact h
  | some tb =>
    obtain ⟨t, b⟩ := tb
    have hr := hE t
    simp only [gval] at h
    split at h
    · rename_i c hc
      rw [hc] at hr; simp only [Rp] at hr
      simp only [gwant, hr]; exact h
    · rename_i hc
      rw [hc] at hr
      obtain ⟨l', hr, h0⟩ := hr
      simp only [RpL] at h0; subst h0
      simp only [gwant, hr]; exact h
    · cases h
variable {d : Option Nat} {g : Option (Nat × Bool)} {rk : List Nat} {ck : Bool} {rem : RL} {v : PV} {B' : List PB}
theorem YR_op {vo : VOp} (hg : gval E g = some true) (h : pop vo E B = some (v, B')) (hc : ck = true ∨ tch E vo = []) (hy : YR P K R l (q + 1) rem k (E.put d v) B') : YR P K R l q ((⟨d, g, .v vo⟩, rk, ck) :: rem) k E B := by
  intro hl ok L0 H0 B0 Rx r1 r2 L H Ea fw hK hR hE hF
  obtain ⟨c, H', L', d'⟩ := pop_ok hR hE h
  have hun : ck = true ∨ ∀ X, X < H.nx → H'.g X = H.g X := hc.imp id fun ht => by rw [ht] at d'; exact d'.ext
  obtain ⟨f1, f2⟩ := facts_next hl ok hF d'.ev.k.st.nx hR.wf hun (vo_self (r := ⟨d, g, .v vo⟩) rfl d'.eq)
  rw [mkR_drop hl]
  exact ⟨_, H', ⟨true, gval_ok hE hg, by simp only [if_true]; exact ⟨c, d'.eq, rfl, f2⟩⟩, hy (RL.lt hl).2.2 ok L0 H0 B0 Rx r1 r2 L' H' _ (fw.trans (d'.ev.fw hK)) (Nat.le_trans hK d'.ev.k.n) d'.hr (ER_put (hE.mono d'.ev.k) d'.rp) f1⟩
/-- Which earlier operations are looked back at from here on. -/
def pendL (l : RL) (q : Nat) : List Nat := ((l.drop q).flatMap (·.2.1)).filter fun p => decide (p < q)
theorem pend_mem {p : Nat} (h : Nd l q p) (hp : p < q) : p ∈ pendL l q := by
  obtain ⟨q', h1, h2, h3⟩ := h
  refine List.mem_filter.2 ⟨List.mem_flatMap.2 ⟨l.at q', ?_, h3⟩, by simpa using hp⟩
  refine List.mem_of_getElem? (i := q' - q) ?_
  rw [List.getElem?_drop, show q + (q' - q) = q' by omega]
  simp only [RL.at, List.getD_eq_getElem?_getD, List.getElem?_eq_getElem h2, Option.getD_some]
theorem facts_nextA {x : ROper × List Nat × Bool} {rem : RL} (hl : l.drop q = x :: rem) (ok : mkRok l = true) {Ea : Env} {H' : AH} {v : AV}
    (hA : ∀ p, p < q → Nd l q p → ∃ vo t, (l.at p).1.o = .v vo ∧ (l.at p).1.d = some t ∧ vo.cls = 0 ∧ vop vo (Ea.put x.1.d v) H' = some ((Ea.put x.1.d v) t, H')) (self : backOk x.1 = true → FactR x.1 (Ea.put x.1.d v) H') {H : AH} :
    Facts l (q + 1) (Ea.put x.1.d v) H' ∧ Rechks (x.2.1.map fun p => (l.at p).1) (Ea.put x.1.d v) H H' := by
  obtain ⟨hq, hx, _⟩ := RL.lt hl
  obtain ⟨m1, m2⟩ := mkRok_at ok hq
  rw [hx] at m1 m2
  refine ⟨fun p hp hnd => ?_, fun r hr => ?_⟩
  · obtain ⟨q', h1, h2, h3⟩ := hnd
    obtain ⟨n1, _⟩ := mkRok_at ok h2
    obtain ⟨n2, n3, n4⟩ := n1 p h3
    by_cases hpq : p = q
    · subst hpq
      rw [hx] at n3 ⊢
      exact self n3
    · obtain ⟨vo, t, a1, a2, a3, a4⟩ := hA p (by omega) ⟨q', by omega, h2, h3⟩
      exact .inr ⟨vo, t, a1, a2, by rw [if_neg (by omega)]; exact ⟨a3, a4⟩⟩
  · obtain ⟨p, hp, rfl⟩ := List.mem_map.1 hr
    obtain ⟨n2, n3, n4⟩ := m1 p hp
    obtain ⟨vo, t, a1, a2, a3, a4⟩ := hA p n2 ⟨q, Nat.le_refl _, hq, by rw [hx]; exact hp⟩
    refine ⟨by rw [a2]; rfl, fun u hu => .inr ?_⟩
    rw [a2] at hu
    simp only [Option.some.injEq] at hu; subst hu
    rw [a1]
    simp only
    rw [if_neg (by omega)]
    exact a4
/-- An operation that changes what is one's own, while a load of another variable may still be drawn behind it. -/
theorem YR_opA (p0 t n xx b o : Nat) {lv : List PV} {vo : VOp} (hps : ∀ p ∈ pendL l q, p = p0) (hat : (l.at p0).1 = ⟨some t, none, .v (.ld n (.t xx))⟩) (hx : E xx = .pt b o) (hb : B[b]? = some (.va lv))
    (hT : ∀ b' ∈ tch E vo, b' ≠ b ∧ ∃ y, B[b']? = some y ∧ y.own = true) (hg : gval E g = some true) (h : pop vo E B = some (v, B')) (hy : YR P K R l (q + 1) rem k (E.put d v) B') : YR P K R l q ((⟨d, g, .v vo⟩, rk, ck) :: rem) k E B := by
  intro hl ok L0 H0 B0 Rx r1 r2 L H Ea fw hK hR hE hF
  obtain ⟨c, H', L', d'⟩ := pop_ok hR hE h
  obtain ⟨X, cs, m1, m2, m3, m4, m5⟩ := hR.bk b _ hb
  have hgX : H'.g X = H.g X := d'.un X m2 fun b' hb' hlt he => by
    obtain ⟨hne, y, hy1, hy2⟩ := hT b' hb'
    exact hne (hR.dj b b' _ y X hb hy1 rfl hy2 (by rw [m1]; rfl) he m3).symm
  have hex : Ea xx = .pt X o := by
    have := hE xx
    rw [hx] at this
    obtain ⟨_, Y, h1, h2⟩ := this
    rw [m1] at h1
    simp only [AV.pt.injEq] at h1
    rw [h2, ← h1.1]
  obtain ⟨f1, f2⟩ := facts_nextA (Ea := Ea) (v := c) (H' := H') (H := H) hl ok (fun p hp hnd => by
    have hpe := hps p (pend_mem hnd hp)
    subst hpe
    have hf := hF p hp hnd
    obtain ⟨q', h1, h2, h3⟩ := hnd
    obtain ⟨n1, _⟩ := mkRok_at ok h2
    obtain ⟨n2, n3, n4⟩ := n1 p h3
    have hnm := n4 q hp h1
    rw [(RL.lt hl).2.1] at hnm
    rw [hat] at hf hnm ⊢
    rcases hf with hf | ⟨vo', t', e1, e2, e3⟩
    · cases hf
    · simp only [ROp.v.injEq, Option.some.injEq] at e1 e2
      subst e1; subst e2
      rw [if_neg (by simp [VOp.cls])] at e3
      have e4 : vop (.ld n (.t xx)) Ea H' = some (Ea t, H') := by
        have := e3.2
        simp only [vop, ev, hex, vld, AH.rd, hgX, Option.map_eq_some_iff] at this ⊢
        obtain ⟨a, ⟨a', h7, h8⟩, h9⟩ := this
        simp only [Prod.mk.injEq] at h9
        exact ⟨a, ⟨a', h7, h8⟩, by rw [h9.1]⟩
      refine ⟨_, _, rfl, rfl, e3.1, ?_⟩
      cases d with
      | none => exact e4
      | some dd =>
        have hnd := hnm dd rfl
        have ht : t ≠ dd := fun e => hnd (by simp [ROper.names, e])
        have hxx : xx ≠ dd := fun e => hnd (by simp [ROper.names, ROper.reads, ROp.opds, VOp.opds, opdT, e])
        simp only [Env.put]
        have e5 : (Ea.st dd c) t = Ea t := by simp only [Env.st, if_neg ht]
        have e6 : vop (.ld n (.t xx)) (Ea.st dd c) H' = vop (.ld n (.t xx)) Ea H' := by simp only [vop, ev, Env.st, if_neg hxx]
        rw [e5, e6, e4]) (vo_self (r := ⟨d, g, .v vo⟩) rfl d'.eq)
  rw [mkR_drop hl]
  exact ⟨_, H', ⟨true, gval_ok hE hg, by simp only [if_true]; exact ⟨c, d'.eq, rfl, f2⟩⟩, hy (RL.lt hl).2.2 ok L0 H0 B0 Rx r1 r2 L' H' _ (fw.trans (d'.ev.fw hK)) (Nat.le_trans hK d'.ev.k.n) d'.hr (ER_put (hE.mono d'.ev.k) d'.rp) f1⟩
theorem YR_call {f : FuncId} {args : List Opd} {T : List Nat} (hg : gval E g = some true) (h : PCall P f B (args.map (pev E)) B' v T) (hc : ck = true ∨ T = []) (hy : YR P K R l (q + 1) rem k (E.put d v) B') :
    YR P K R l q ((⟨d, g, .call f args⟩, rk, ck) :: rem) k E B := by
  intro hl ok L0 H0 B0 Rx r1 r2 L H Ea fw hK hR hE hF
  obtain ⟨a, H', L', h1, h2, h3, h4, h5⟩ := h L H _ hR (RpL_map hE args)
  have hun : ck = true ∨ ∀ X, X < H.nx → H'.g X = H.g X := hc.imp id fun ht X hX => h5 X hX fun b hb => by rw [ht] at hb; simp at hb
  obtain ⟨f1, f2⟩ := facts_next hl ok hF h2.k.st.nx hR.wf hun (v := a) (fun hb => by simp [backOk] at hb)
  rw [mkR_drop hl]
  exact ⟨_, H', ⟨true, gval_ok hE hg, by simp only [if_true]; exact ⟨a, h1, rfl, f2⟩⟩, hy (RL.lt hl).2.2 ok L0 H0 B0 Rx r1 r2 L' H' _ (fw.trans (h2.fw hK)) (Nat.le_trans hK h2.k.n) h3 (ER_put (hE.mono h2.k) h4) f1⟩
theorem YR_calv {x : Opd} {f : FuncId} {pa ca : List PV} {args : List Opd} {T : List Nat} (hg : gval E g = some true) (hx : pev E x = .fn (.func f) pa ca) (hb : Bd P f) (h : PCall P f B (pa ++ args.map (pev E) ++ ca) B' v T) (hc : ck = true ∨ T = [])
    (hy : YR P K R l (q + 1) rem k (E.put d v) B') : YR P K R l q ((⟨d, g, .calv x args⟩, rk, ck) :: rem) k E B := by
  intro hl ok L0 H0 B0 Rx r1 r2 L H Ea fw hK hR hE hF
  have hr := Rp_ev hE x
  rw [hx] at hr
  obtain ⟨p', c', h8, h6, h7⟩ := hr
  obtain ⟨a, H', L', h1, h2, h3, h4, h5⟩ := h L H (p' ++ vals Ea args ++ c') hR ((h6.app (RpL_map hE args)).app h7)
  have hun : ck = true ∨ ∀ X, X < H.nx → H'.g X = H.g X := hc.imp id fun ht X hX => h5 X hX fun b hb => by rw [ht] at hb; simp at hb
  obtain ⟨f1, f2⟩ := facts_next hl ok hF h2.k.st.nx hR.wf hun (v := a) (fun hb => by simp [backOk] at hb)
  rw [mkR_drop hl]
  exact ⟨_, H', ⟨true, gval_ok hE hg, by simp only [if_true]; exact ⟨f, _, a, by rw [h8]; rfl, hb, h1, rfl, f2⟩⟩, hy (RL.lt hl).2.2 ok L0 H0 B0 Rx r1 r2 L' H' _ (fw.trans (h2.fw hK)) (Nat.le_trans hK h2.k.n) h3 (ER_put (hE.mono h2.k) h4) f1⟩
theorem YR_skip {o : ROp} (hg : gval E g = some false) (hy : YR P K R l (q + 1) rem k (E.put d (.tu [])) B) : YR P K R l q ((⟨d, g, o⟩, rk, ck) :: rem) k E B := by
  intro hl ok L0 H0 B0 Rx r1 r2 L H Ea fw hK hR hE hF
  have hgw := gval_ok hE hg
  obtain ⟨f1, f2⟩ := facts_next (H' := H) (v := .tu []) hl ok hF (Nat.le_refl _) hR.wf (.inr fun _ _ => rfl) (fun hb => by
    left
    unfold backOk at hb
    simp only [Bool.and_eq_true] at hb
    cases d with
    | none => exact hgw
    | some x =>
      have hr : x ∉ (⟨some x, g, o⟩ : ROper).reads := by simpa using hb.1.2
      have := gwant_put (E := Ea) (v := .tu []) hr
      simp only at this
      simp only [Env.put]
      rw [this]; exact hgw)
  rw [mkR_drop hl]
  exact ⟨_, H, ⟨false, hgw, by simp⟩, hy (RL.lt hl).2.2 ok L0 H0 B0 Rx r1 r2 L H _ fw hK hR (ER_put hE ⟨[], rfl, rfl⟩) f1⟩

abbrev Zr := PE0 → List PB → Prop
def ZRV (z : Zr) (r : Option (PV × List PB)) (ck : Bool) (T : List Nat) (d : Option Nat) (E : PE0) (F : Prop) : Prop := match r with | some (v, B') => if ck = true ∨ T = [] then z (E.put d v) B' else F | none => False
def ZRO (P : Program) (K : Nat) (R : PEnd) (l : RL) (k : List It) (q : Nat) (x : ROper × List Nat × Bool) (rem : RL) (E : PE0) (B : List PB) (z : Zr) : ROp → Prop
  | .v vo => ZRV z (pop vo E B) x.2.2 (tch E vo) x.1.d E (YR P K R l q (x :: rem) k E B)
  | _ => YR P K R l q (x :: rem) k E B
def ZRG (P : Program) (K : Nat) (R : PEnd) (l : RL) (k : List It) (q : Nat) (x : ROper × List Nat × Bool) (rem : RL) (E : PE0) (B : List PB) (z : Zr) (v : PV) (b : Bool) (o : ROp) : Prop :=
  match v with
  | .bo c => if c = b then ZRO P K R l k q x rem E B z o else z (E.put x.1.d (.tu [])) B
  | .tu [] => z (E.put x.1.d (.tu [])) B
  | _ => False
def ZR (P : Program) (K : Nat) (R : PEnd) (l : RL) (k : List It) : Nat → RL → PE0 → List PB → Prop
  | _, [], E, B => Z P K R 2000 k E B
  | q, (⟨d, none, o⟩, rk, ck) :: rem, E, B => ZRO P K R l k q (⟨d, none, o⟩, rk, ck) rem E B (ZR P K R l k (q + 1) rem) o
  | q, (⟨d, some (t, b), o⟩, rk, ck) :: rem, E, B => ZRG P K R l k q (⟨d, some (t, b), o⟩, rk, ck) rem E B (ZR P K R l k (q + 1) rem) (E t) b o
theorem ZRO_ok {o : ROp} {z : Zr} (hn : ∀ E' B', z E' B' → YR P K R l (q + 1) rem k E' B') (hg : gval E g = some true) (h : ZRO P K R l k q (⟨d, g, o⟩, rk, ck) rem E B z o) : YR P K R l q ((⟨d, g, o⟩, rk, ck) :: rem) k E B := by
  unfold ZRO at h
  split at h
  · unfold ZRV at h
    split at h
    · rename_i v B' he
      split at h
      · rename_i hc
        exact YR_op hg he hc (hn _ _ h)
      · exact h
    · exact h.elim
  · exact h
theorem YR_go : ∀ {rem : RL} {q : Nat} {E : PE0} {B : List PB}, ZR P K R l k q rem E B → YR P K R l q rem k E B
  | [], q, E, B, h => YR_nil (Y_go 2000 h)
  | (⟨d, none, o⟩, rk, ck) :: rem, q, E, B, h => ZRO_ok (fun _ _ => YR_go) rfl h
  | (⟨d, some (t, b), o⟩, rk, ck) :: rem, q, E, B, h => by
    unfold ZR ZRG at h
    split at h
    · rename_i c hc
      by_cases e : c = b
      · rw [if_pos e] at h
        have hg : gval E (some (t, b)) = some true := by simp only [gval, hc, e, beq_self_eq_true]
        exact ZRO_ok (fun _ _ => YR_go) hg h
      · rw [if_neg e] at h
        have hg : gval E (some (t, b)) = some false := by
          simp only [gval, hc]
          cases c <;> cases b <;> first | exact absurd rfl e | rfl
        exact YR_skip hg (YR_go h)
    · rename_i hc
      exact YR_skip (by simp only [gval, hc]) (YR_go h)
    · exact h.elim
end
end Go.AX
