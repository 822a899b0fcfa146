/- AX, part P: the look at a region that draws. -/
import Derived.Test.YtjmknbbipadjbaaAxO
set_option linter.unusedSimpArgs false
set_option linter.unusedVariables false
namespace Go.AX
open Go

theorem opdT_mem {n : Nat} : ∀ {l : List Opd}, .t n ∈ l → n ∈ opdT l
  | x :: r, h => by
    rcases List.mem_cons.1 h with h | h
    · subst h; simp [opdT]
    · have := opdT_mem h
      cases x <;> simp [opdT, this]
theorem DT.funs {P : Program} : ∀ {L : List DOp} {E : Env} {H : AH} {E' : Env} {H' : AH}, DT P L E H E' H' →
    ∃ (Es : Nat → Env) (Hs : Nat → AH), Es 0 = E ∧ Hs 0 = H ∧ Es L.length = E' ∧ Hs L.length = H' ∧ ∀ p x, L[p]? = some x → DStep P x (Es p) (Hs p) (Es (p + 1)) (Hs (p + 1))
  | [], E, H, E', H', h => ⟨fun _ => E, fun _ => H, rfl, rfl, h.1.symm, h.2.symm, fun p x hp => by simp at hp⟩
  | x :: r, E, H, E', H', h => by
    obtain ⟨E1, H1, h1, h2⟩ := h
    obtain ⟨Es, Hs, e0, h0, en, hn, hs⟩ := DT.funs h2
    refine ⟨fun p => match p with | 0 => E | p + 1 => Es p, fun p => match p with | 0 => H | p + 1 => Hs p, rfl, rfl, en, hn, ?_⟩
    intro p y hp
    cases p with
    | zero =>
      simp only [List.getElem?_cons_zero, Option.some.injEq] at hp
      subst hp
      simp only [e0, h0]
      exact h1
    | succ p =>
      simp only [List.getElem?_cons_succ] at hp
      exact hs p y hp

theorem allP_of {n : Nat} {f : Nat → Bool} (h : allP n f = true) : ∀ p, p < n → f p = true := fun p hp => List.all_eq_true.1 h p (List.mem_range.2 hp)
theorem orE_bit {cl : List Nat} {i : Nat} : ∀ (l : List Edge) (s : Nat), (l.foldl (fun s e => if Region.binds .any e then s ||| (2 ^ e.on ||| cl.getD e.on 0) else s) s).testBit i = true →
    s.testBit i = true ∨ ∃ e ∈ l, Region.binds .any e = true ∧ (i = e.on ∨ (cl.getD e.on 0).testBit i = true)
  | [], s, h => .inl h
  | e :: r, s, h => by
    simp only [List.foldl_cons] at h
    rcases orE_bit r _ h with h | ⟨e', he, h'⟩
    · split at h
      · rename_i hb
        rw [Nat.testBit_or, Nat.testBit_or, Nat.testBit_two_pow] at h
        simp only [Bool.or_eq_true, decide_eq_true_eq] at h
        rcases h with h | h | h
        · exact .inl h
        · exact .inr ⟨e, by simp, hb, .inl h.symm⟩
        · exact .inr ⟨e, by simp, hb, .inr h⟩
      · exact .inl h
    · exact .inr ⟨e', by simp [he], h'⟩

/-- What a region's text must be. -/
structure Good (ops : Array Oper) (cl ord : List Nat) (l : List ROper) : Prop where
  lenO : ord.length = ops.size
  lenL : l.length = ops.size
  sur : ∀ i, i < ops.size → ∃ p, p < ops.size ∧ ord.getD p 0 = i
  bnd : ∀ p, p < ops.size → ord.getD p 0 < ops.size
  clq : ∀ j, j < ops.size → cl.getD j 0 = orE cl (ops.getD j default)
  edge : ∀ j, j < ops.size → ∀ e ∈ (ops.getD j default).after.toList, Region.binds .any e = true → e.on < j
  uni : ∀ p q, p < ops.size → q < ops.size → ord.getD p 0 = ord.getD q 0 → p = q
  O : ∀ p q, p < q → q < ops.size → cmpB cl (ord.getD q 0) (ord.getD p 0) = false
  A : ∀ p q, p < q → q < ops.size → (l.getD p default).act = true → cmpB cl (ord.getD p 0) (ord.getD q 0) = true
  T : ∀ p q d, p < ops.size → q < ops.size → p ≠ q → (l.getD p default).d = some d → d ∈ (l.getD q default).names → cmpB cl (ord.getD p 0) (ord.getD q 0) = true ∨ cmpB cl (ord.getD q 0) (ord.getD p 0) = true
  RK : ∀ p q, p < q → q < ops.size → (l.getD q default).act = true → (l.getD p default).act = false → (l.getD p default).pure = false → cmpB cl (ord.getD p 0) (ord.getD q 0) = false →
    l.getD p default ∈ rkOf cl ord l q ∧ (l.getD p default).d.isSome = true ∧ (∀ d, (l.getD p default).d = some d → d ∉ (l.getD p default).reads) ∧ ∀ s d, p < s → s ≤ q → (l.getD s default).d = some d → d ∉ (l.getD p default).names
theorem Good.of {ops : Array Oper} {cl ord : List Nat} {l : List ROper} (h : dOk ops cl ord l = true) : Good ops cl ord l := by
  unfold dOk at h
  simp only [Bool.and_eq_true, beq_iff_eq] at h
  obtain ⟨⟨⟨⟨⟨h1, h2⟩, h3⟩, h4⟩, h5⟩, h6⟩ := h
  have h3' := allP_of h3
  have h4' := allP_of h4
  have h5' := allP_of h5
  have h6' := fun p hp => allP_of (allP_of h6 p hp)
  have pr : ∀ p q, p < ops.size → q < ops.size → p ≠ q → pairR cl ord l p q = true := fun p q hp hq hne => by
    have := h6' p hp q hq
    simp only [pairOk, Bool.or_eq_true, beq_iff_eq] at this
    rcases this with this | this
    · exact absurd this hne
    · exact this
  refine ⟨h1, h2, fun i hi => ?_, fun p hp => by simpa using h4' p hp, fun j hj => ?_, fun j hj e he hb => ?_, fun p q hp hq he => ?_, fun p q hpq hq => ?_, fun p q hpq hq ha => ?_, fun p q d hp hq hne hd hm => ?_, fun p q hpq hq a1 a2 a3 a4 => ?_⟩
  · have := h3' i hi
    simp only [List.contains_iff_mem] at this
    obtain ⟨p, hp⟩ := List.mem_iff_getElem?.1 this
    have hlt := (List.getElem?_eq_some_iff.1 hp).1
    exact ⟨p, by omega, by simp [List.getD_eq_getElem?_getD, hp]⟩
  · have := h5' j hj
    simp only [pairR, Bool.and_eq_true, beq_iff_eq] at this
    exact this.1
  · have := h5' j hj
    simp only [pairR, Bool.and_eq_true, List.all_eq_true] at this
    have := this.2 e he
    simpa [hb] using this
  · rcases Nat.decEq p q with hne | he'
    · have := pr p q hp hq hne
      simp only [pairR, Bool.and_eq_true, bne_iff_ne] at this
      exact absurd he this.1.1.1
    · exact he'
  · have := pr p q (by omega) hq (by omega)
    simp only [pairR, Bool.and_eq_true, hpq, decide_true, Bool.not_true, Bool.false_or, Bool.not_eq_true'] at this
    exact this.1.1.2.1
  · have := pr p q (by omega) hq (by omega)
    simp only [pairR, Bool.and_eq_true, hpq, decide_true, Bool.not_true, Bool.false_or, Bool.not_eq_true', ha] at this
    exact this.1.1.2.2
  · have := pr p q hp hq hne
    simp only [pairR, Bool.and_eq_true] at this
    have := this.1.2
    rw [hd] at this
    have hc : (l.getD q default).names.contains d = true := by simpa using hm
    simp only [Option.any_some, hc, Bool.not_true, Bool.false_or, Bool.or_eq_true] at this
    exact this
  · have := pr p q (by omega) hq (by omega)
    simp only [pairR, Bool.and_eq_true] at this
    have := this.2
    simp only [hpq, decide_true, a1, a2, a3, a4, Bool.not_false, Bool.and_self, Bool.not_true, Bool.false_or, Bool.and_eq_true, List.all_eq_true] at this
    refine ⟨?_, this.1.1, fun d hd hm => ?_, fun s d hps hsq hd hm => ?_⟩
    · unfold rkOf
      rw [if_pos a1]
      exact List.mem_map.2 ⟨p, List.mem_filter.2 ⟨List.mem_range.2 hpq, by simp only [a2, a3, a4, Bool.not_false, Bool.and_self]⟩, rfl⟩
    · have := this.1.2
      rw [hd] at this
      have hc : (l.getD p default).reads.contains d = true := by simpa using hm
      simp only [Option.any_some, hc, Bool.not_true, Bool.false_eq_true] at this
    · have := this.2 s (List.mem_range.2 (by omega))
      rw [hd] at this
      have hc : (l.getD p default).names.contains d = true := by simpa using hm
      simp only [Option.any_some, hc, Bool.not_true, Bool.or_false, decide_eq_true_eq] at this
      omega

/-- What is listed is closed: all behind what is listed is. -/
theorem Good.closed {ops : Array Oper} {cl ord : List Nat} {l : List ROper} (G : Good ops cl ord l) {listed : Nat → Prop} (hdown : ∀ j, j < ops.size → listed j → ∀ e ∈ (ops.getD j default).after.toList, Region.binds .any e = true → listed e.on) :
    ∀ j, j < ops.size → (∀ e ∈ (ops.getD j default).after.toList, Region.binds .any e = true → listed e.on) → ∀ i, cmpB cl i j = true → listed i := by
  intro j
  induction j using Nat.strongRecOn with
  | _ j ih =>
    intro hj hpre i hi
    unfold cmpB at hi
    rw [G.clq j hj] at hi
    rcases orE_bit _ _ hi with h | ⟨e, he, hb, h⟩
    · simp at h
    · have hlt := G.edge j hj e he hb
      have hl := hpre e he hb
      rcases h with rfl | h
      · exact hl
      · exact ih e.on hlt (by omega) (hdown e.on (by omega) hl) i h

end Go.AX
