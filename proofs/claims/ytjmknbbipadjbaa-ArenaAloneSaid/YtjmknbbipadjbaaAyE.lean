/- AY, part E: operations that make blocks, and that write. -/
import Derived.Test.YtjmknbbipadjbaaAyD
set_option linter.unusedSimpArgs false
set_option linter.unusedVariables false
namespace Go.AX
open Go

def Lk.put (L : Lk) (a : AV) : Lk := ⟨L.n + 1, fun b => if b = L.n then a else L.m b, L.F⟩
theorem put_m {L : Lk} {a : AV} {b : Nat} (h : b < L.n) : (L.put a).m b = L.m b := by simp only [Lk.put]; rw [if_neg (by omega)]
theorem put_new {L : Lk} {a : AV} : (L.put a).m L.n = a := by simp [Lk.put]
section
variable {L L' : Lk} {H H' : AH} {B B' : List PB} {E : Nat → PV} {Ea : Env}
theorem Keep_put {a : AV} (h : Stay L.F H L.F H') : Keep L H (L.put a) H' := ⟨h, Nat.le_succ _, fun b hb => put_m hb⟩
theorem GsX.keep {F F' : Nat → Prop} {es : Nat} {l : List PV} {a : AV} {X : Nat} (h : GsX F H es l a X) (s : Stay F H F' H') (hX : H'.g X = H.g X) : GsX F' H' es l a X := by
  obtain ⟨cs, sp, h1, h2, h3, h4⟩ := h
  exact ⟨cs, sp, Nat.lt_of_lt_of_le h1 s.nx, by rw [hX]; exact h2, RcE.mono s _ _ h3, h4⟩
theorem BkR.keep {p : PB} {a : AV} (h : BkR L H p a) (k : Keep L H L' H') (ho : ∀ X, p.own = true → a.bk = some X → ¬ L.F X → H'.g X = H.g X ∧ ¬ L'.F X) : BkR L' H' p a := by
  cases p with
  | no => trivial
  | va l =>
    obtain ⟨X, cs, rfl, h2, h3, h4, h5⟩ := h
    obtain ⟨h6, h7⟩ := ho X rfl rfl h3
    exact ⟨X, cs, rfl, Nat.lt_of_lt_of_le h2 k.st.nx, h7, by rw [h6]; exact h4, RpL.mono k _ h5⟩
  | fv l => exact ⟨Rc.mono k.st _ h.1, h.2⟩
  | gs w es l =>
    obtain ⟨⟨h1, h2⟩ | ⟨X, h1, h2⟩, h3⟩ := h
    · exact ⟨.inl ⟨Rc.mono k.st _ h1, h2⟩, h3⟩
    · obtain ⟨h6, h7⟩ := ho X rfl h2.bk h1
      exact ⟨.inr ⟨X, h7, h2.keep k.st h6⟩, h3⟩
  | fz es l =>
    obtain ⟨⟨h1, h2⟩ | ⟨X, h1, h2⟩, h3⟩ := h
    · exact ⟨.inl ⟨Rc.mono k.st _ h1, h2⟩, h3⟩
    · exact ⟨.inr ⟨X, k.st.sF X h1, h2.keep k.st (k.st.g X h1)⟩, h3⟩
theorem al_wf {l : List AV} (h : ∀ X, H.nx ≤ X → H.g X = .no) : ∀ X, (H.al l).nx ≤ X → (H.al l).g X = .no := fun X hX => by
  simp only [AH.al] at hX ⊢
  rw [if_neg (by omega)]; exact h X (by omega)
theorem Ow_lt (h : HR L H B) {X : Nat} (hX : Ow L B X) : X < H.nx := by
  obtain ⟨b, p, h1, h2, h3, h4⟩ := hX
  have hb := h.bk b p h1
  cases p with
  | va l =>
    obtain ⟨X', cs, he, h5, _⟩ := hb
    rw [he] at h3; simp only [AV.bk, Option.some.injEq] at h3
    omega
  | gs w es l =>
    obtain ⟨⟨⟨⟨cs, h5, h6, _⟩, _⟩, _⟩ | ⟨X', h5, h6⟩, _⟩ := hb
    · exact absurd (h6 X h3) h4
    · rw [h6.bk] at h3; simp only [Option.some.injEq] at h3
      obtain ⟨_, _, h7, _⟩ := h6
      omega
  | _ => simp [PB.own] at h2
theorem HR_ext (h : HR L H B) (hn : H.nx ≤ H'.nx) (hw : ∀ X, H'.nx ≤ X → H'.g X = .no) (hg : ∀ X, X < H.nx → (L.F X ∨ Ow L B X) → H'.g X = H.g X) : HR L H' B := by
  have s : Stay L.F H L.F H' := ⟨hn, fun _ h => h, fun X hX => hg X (h.fl X hX) (.inl hX)⟩
  refine ⟨h.n, fun X hX => Nat.lt_of_lt_of_le (h.fl X hX) hn, hw, fun b p hb => (h.bk b p hb).keep ⟨s, Nat.le_refl _, fun _ _ => rfl⟩ fun X hp hX hF => ?_, h.dj⟩
  have ho : Ow L B X := ⟨b, p, hb, hp, hX, hF⟩
  exact ⟨hg X (Ow_lt h ho) (.inr ho), hF⟩
theorem set_get {b b' : Nat} {p q : PB} (h : (B.set b q)[b']? = some p) (hq : q.own = false) (hp : p.own = true) : B[b']? = some p ∧ b' ≠ b := by
  rw [List.getElem?_set] at h
  split at h
  · split at h
    · simp only [Option.some.injEq] at h; subst h; rw [hq] at hp; cases hp
    · cases h
  · rename_i hne; exact ⟨h, fun e => hne e.symm⟩
theorem HR_kill (h : HR L H B) (b : Nat) : HR L H (B.set b .no) := by
  refine ⟨by rw [List.length_set]; exact h.n, h.fl, h.wf, fun c p hc => ?_, fun c c' p p' X hc hc' hp hp' => ?_⟩
  · rw [List.getElem?_set] at hc
    split at hc
    · split at hc
      · simp only [Option.some.injEq] at hc; subst hc; trivial
      · cases hc
    · exact h.bk c p hc
  · exact h.dj c c' p p' X (set_get hc rfl hp).1 (set_get hc' rfl hp').1 hp hp'
theorem Ow_kill {b X : Nat} (h : Ow L (B.set b .no) X) : Ow L B X := by
  obtain ⟨c, p, h1, h2, h3⟩ := h
  exact ⟨c, p, (set_get h1 rfl h2).1, h2, h3⟩
theorem Ow_kill_ne (h : HR L H B) {b X : Nat} {p : PB} (hp : B[b]? = some p) (hX : (L.m b).bk = some X) (ho : Ow L (B.set b .no) X) (hpo : p.own = true) : False := by
  obtain ⟨c, q, h1, h2, h3, h4⟩ := ho
  obtain ⟨h5, h6⟩ := set_get h1 rfl h2
  exact h6 (h.dj c b q p X h5 hp h2 hpo h3 hX h4)
theorem HR_add (h : HR L H B) {a : AV} {p : PB} (hb : BkR (L.put a) H p a) (hf : ∀ X, a.bk = some X → p.own = true → ¬ L.F X → ¬ Ow L B X) : HR (L.put a) H (B ++ [p]) := by
  have k : Keep L H (L.put a) H := Keep_put .refl
  have hn := h.n
  have get : ∀ b q, (B ++ [p])[b]? = some q → (b < L.n ∧ B[b]? = some q) ∨ (b = L.n ∧ q = p) := by
    intro b q hq
    by_cases hlt : b < B.length
    · rw [List.getElem?_append_left hlt] at hq; exact .inl ⟨by omega, hq⟩
    · rw [List.getElem?_append_right (by omega)] at hq
      have hl := (List.getElem?_eq_some_iff.1 hq).1
      simp only [List.length_cons, List.length_nil] at hl
      have : b - B.length = 0 := by omega
      rw [this] at hq
      simp only [List.getElem?_cons_zero, Option.some.injEq] at hq
      exact .inr ⟨by omega, hq.symm⟩
  refine ⟨by simp [Lk.put, hn], h.fl, h.wf, fun b q hq => ?_, fun b b' q q' X hq hq' ho ho' hX hX' hF => ?_⟩
  · rcases get b q hq with ⟨h1, h2⟩ | ⟨rfl, rfl⟩
    · rw [put_m h1]
      exact (h.bk b q h2).keep k fun X _ _ hF => ⟨rfl, hF⟩
    · rw [put_new]; exact hb
  · rcases get b q hq with ⟨h1, h2⟩ | ⟨rfl, rfl⟩ <;> rcases get b' q' hq' with ⟨h1', h2'⟩ | ⟨rfl, rfl⟩
    · rw [put_m h1] at hX; rw [put_m h1'] at hX'
      exact h.dj b b' q q' X h2 h2' ho ho' hX hX' hF
    · rw [put_m h1] at hX; rw [put_new] at hX'
      exact absurd ⟨b, q, h2, ho, hX, hF⟩ (hf X hX' ho' hF)
    · rw [put_new] at hX; rw [put_m h1'] at hX'
      exact absurd ⟨b', q', h2', ho', hX', hF⟩ (hf X hX ho hF)
    · rfl
theorem Ev_add (h : HR L H B) {B0 : List PB} {a : AV} {p : PB} (hl : B0.length = B.length) (hn : H.nx ≤ H'.nx) (hF : ∀ X, L.F X → H'.g X = H.g X) (hc : ∀ X, X < H.nx → ¬ L.F X → ¬ Ow L B X → H'.g X = H.g X)
    (hO : ∀ X, Ow L B0 X → Ow L B X) (hX : ∀ X, a.bk = some X → p.own = true → ¬ L.F X → Ow L B X ∨ H.nx ≤ X) : Ev L H B (L.put a) H' (B0 ++ [p]) := by
  have hLn := h.n
  refine ⟨Keep_put ⟨hn, fun _ h => h, hF⟩, hc, fun X h => .inl h, fun X ho => ?_⟩
  obtain ⟨b, q, h1, h2, h3, h4⟩ := ho
  by_cases hlt : b < B0.length
  · rw [List.getElem?_append_left hlt] at h1
    rw [put_m (by omega)] at h3
    exact .inl (hO X ⟨b, q, h1, h2, h3, h4⟩)
  · rw [List.getElem?_append_right (by omega)] at h1
    have hl' := (List.getElem?_eq_some_iff.1 h1).1
    simp only [List.length_cons, List.length_nil] at hl'
    have : b - B0.length = 0 := by omega
    rw [this] at h1
    simp only [List.getElem?_cons_zero, Option.some.injEq] at h1
    subst h1
    have hb : b = L.n := by omega
    subst hb
    rw [put_new] at h3
    exact hX X h3 h2 h4

/-- What an operation leaves: the heap behind it, and which blocks it may have changed. -/
structure Did (L : Lk) (H : AH) (B : List PB) (r : Option (AV × AH)) (v : PV) (B' : List PB) (T : List Nat) (c : AV) (H' : AH) (L' : Lk) : Prop where
  eq : r = some (c, H')
  ev : Ev L H B L' H' B'
  hr : HR L' H' B'
  rp : Rp L' H' v c
  un : ∀ X, X < H.nx → (∀ b ∈ T, b < L.n → (L.m b).bk ≠ some X) → H'.g X = H.g X

/-- A block more, of variables or a slice's. -/
theorem did_new (h : HR L H B) {cells : List AV} {a : AV} {p : PB} {v : PV} {r : Option (AV × AH)} (hr : r = some (a, H.al cells)) (ha : a.bk = some H.nx) (hp : p.own = true)
    (hb : BkR (L.put a) (H.al cells) p a) (hv : Rp (L.put a) (H.al cells) v a) : Did L H B r v (B ++ [p]) [] a (H.al cells) (L.put a) := by
  have hF : ∀ X, L.F X → (H.al cells).g X = H.g X := fun X hX => al_old (h.fl X hX)
  have hne : HR L (H.al cells) B := HR_ext h (Nat.le_succ _) (al_wf h.wf) fun X hX _ => al_old hX
  refine ⟨hr, Ev_add h rfl (Nat.le_succ _) hF (fun X hX _ _ => al_old hX) (fun _ h => h) (fun X hX _ _ => ?_), HR_add hne hb (fun X hX _ _ ho => ?_), hv, fun X hX _ => al_old hX⟩
  · rw [ha] at hX; simp only [Option.some.injEq] at hX; exact .inr (by omega)
  · rw [ha] at hX; simp only [Option.some.injEq] at hX
    have := Ow_lt h ho
    omega
theorem did_va (h : HR L H B) {cells : List AV} {l : List PV} {r : Option (AV × AH)} (hr : r = some (.pt H.nx 0, H.al cells)) (hl : RpL L H l cells) : Did L H B r (.pt B.length 0) (B ++ [.va l]) [] (.pt H.nx 0) (H.al cells) (L.put (.pt H.nx 0)) := by
  have k : Keep L H (L.put (.pt H.nx 0)) (H.al cells) := Keep_put ⟨Nat.le_succ _, fun _ h => h, fun X hX => al_old (h.fl X hX)⟩
  refine did_new h hr rfl rfl ⟨H.nx, cells, rfl, Nat.lt_succ_self _, fun hF => by have := h.fl _ hF; omega, al_new, RpL.mono k _ hl⟩ ?_
  rw [← h.n]
  exact ⟨Nat.lt_succ_self _, H.nx, put_new, rfl⟩
theorem al_cells {cells : List AV} : ∀ (i : Nat) v, cells[i]? = some v → ((H.al cells).g H.nx).cells[0 + i]? = some v := by
  intro i v hi
  rw [al_new, Nat.zero_add]; exact hi

def elemOf : List PV → PV
  | [v] => v
  | l => .ag l
def PV.sca : PV → Bool
  | .ag _ => false
  | .tu _ => false
  | .dd => false
  | v => v.cld
def PV.scaL (l : List PV) : Bool := l.all PV.sca
theorem sca_cld {v : PV} (h : v.sca = true) : v.cld = true := by cases v <;> simp_all [PV.sca, PV.cld]
theorem sca_cl {v : PV} (h : v.sca = true) : v.cl = some [v] := by cases v <;> simp_all [PV.sca, PV.cl]
theorem scaL_cldL : ∀ {l : List PV}, PV.scaL l = true → PV.cldL l = true
  | [], _ => rfl
  | v :: r, h => by
    simp only [PV.scaL, List.all_cons, Bool.and_eq_true] at h
    simp only [PV.cldL, Bool.and_eq_true]
    exact ⟨sca_cld h.1, scaL_cldL (by simpa [PV.scaL] using h.2)⟩
theorem Rc.one {F : Nat → Prop} {v : PV} {a : AV} (h : Rc F H v a) (hs : v.sca = true) : a.cl = some [a] := by
  cases v <;> simp only [PV.sca, PV.cld, Bool.false_eq_true] at hs
  case vs => obtain ⟨⟨cs, h1, _⟩, _⟩ := h; exact h1.cl
  case pe => obtain ⟨_, _, _, rfl, _⟩ := h; rfl
  case fn => obtain ⟨_, _, rfl, _⟩ := h; rfl
  case fc => obtain ⟨_, rfl, _⟩ := h; rfl
  all_goals (simp only [Rc] at h; subst h; rfl)
theorem elemOf_ok {F : Nat → Prop} {l : List PV} {cs : List AV} (h : RcL F H l cs) (hs : PV.scaL l = true) : ∃ a, Rc F H (elemOf l) a ∧ a.cl = some cs := by
  have other : ∃ a, Rc F H (.ag l) a ∧ a.cl = some cs := ⟨.ag cs, ⟨cs, rfl, h⟩, rfl⟩
  cases l with
  | nil => exact other
  | cons v r =>
    cases r with
    | cons u r => exact other
    | nil =>
      obtain ⟨a, l', h1, h2, h3⟩ := h
      simp only [RcL] at h3; subst h3; subst h1
      simp only [PV.scaL, List.all_cons, Bool.and_eq_true] at hs
      exact ⟨a, h2, Rc.one h2 hs.1⟩
def chunk : Nat → Nat → List PV → List PV
  | 0, _, _ => []
  | n + 1, es, l => elemOf (l.take es) :: chunk n es (l.drop es)
theorem scaL_take {l : List PV} {k : Nat} (h : PV.scaL l = true) : PV.scaL (l.take k) = true := List.all_eq_true.2 fun v hv => List.all_eq_true.1 h v (List.mem_of_mem_take hv)
theorem scaL_drop {l : List PV} {k : Nat} (h : PV.scaL l = true) : PV.scaL (l.drop k) = true := List.all_eq_true.2 fun v hv => List.all_eq_true.1 h v (List.mem_of_mem_drop hv)
theorem chunk_ok {F : Nat → Prop} {es : Nat} : ∀ {n : Nat} {l : List PV} {cs : List AV}, RcL F H l cs → PV.scaL l = true → l.length = n * es → RcE F H es (chunk n es l) cs
  | 0, l, cs, h, _, hl => by
    have : l = [] := List.eq_nil_of_length_eq_zero (by omega)
    subst this
    simp only [RcL] at h; subst h
    simp only [chunk, RcE]
  | n + 1, l, cs, h, hs, hl => by
    have hes : es ≤ l.length := by rw [hl, Nat.add_mul]; omega
    obtain ⟨a, h1, h2⟩ := elemOf_ok (h.take es) (scaL_take hs)
    refine ⟨a, cs.take es, cs.drop es, h1, h2, ?_, (List.take_append_drop _ _).symm, chunk_ok (h.drop es) (scaL_drop hs) ?_⟩
    · rw [List.length_take, h.len]; omega
    · rw [List.length_drop, hl, Nat.add_mul]; omega
theorem chunk_len {es : Nat} : ∀ {n : Nat} {l : List PV}, (chunk n es l).length = n
  | 0, _ => rfl
  | n + 1, l => by simp only [chunk, List.length_cons, chunk_len]
theorem rep_ok {F : Nat → Prop} {z : List PV} {cs : List AV} (h : RcL F H z cs) (hs : PV.scaL z = true) : ∀ n, RcE F H z.length (List.replicate n (elemOf z)) (List.replicate n cs).flatten
  | 0 => by simp [RcE]
  | n + 1 => by
    obtain ⟨a, h1, h2⟩ := elemOf_ok h hs
    simp only [List.replicate_succ, List.flatten_cons]
    exact ⟨a, cs, _, h1, h2, h.len, rfl, rep_ok h hs n⟩
/-- A new slice of one's own, with some room. -/
theorem did_gs (h : HR L H B) {cs sp : List AV} {es c : Nat} {l : List PV} {r : Option (AV × AH)} (hr : r = some (.sl H.nx 0 l.length c, H.al (cs ++ sp))) (hl : RcE L.F H es l cs) (hc : l.length ≤ c) (hsp : sp.length = (c - l.length) * es) :
    Did L H B r (.gr B.length) (B ++ [.gs true es l]) [] (.sl H.nx 0 l.length c) (H.al (cs ++ sp)) (L.put (.sl H.nx 0 l.length c)) := by
  have s : Stay L.F H L.F (H.al (cs ++ sp)) := ⟨Nat.le_succ _, fun _ h => h, fun X hX => al_old (h.fl X hX)⟩
  refine did_new h hr rfl rfl ⟨.inr ⟨H.nx, fun hF => by have := h.fl _ hF; omega, cs, sp, Nat.lt_succ_self _, al_new, RcE.mono s _ _ hl, .inr ⟨c, hc, rfl, hsp⟩⟩, rfl⟩ ?_
  rw [← h.n]
  exact ⟨Nat.lt_succ_self _, put_new.symm, rfl⟩
/-- An empty slice that stays. -/
theorem did_em (h : HR L H B) {r : Option (AV × AH)} (hr : r = some (.sl H.nx 0 0 0, H.al [])) : Did L H B r (.vs 2 0 []) B [] (.sl H.nx 0 0 0) (H.al []) ⟨L.n, L.m, fun X => L.F X ∨ X = H.nx⟩ := by
  have s : Stay L.F H (fun X => L.F X ∨ X = H.nx) (H.al []) := ⟨Nat.le_succ _, fun _ h => .inl h, fun X hX => al_old (h.fl X hX)⟩
  have k : Keep L H ⟨L.n, L.m, fun X => L.F X ∨ X = H.nx⟩ (H.al []) := ⟨s, Nat.le_refl _, fun _ _ => rfl⟩
  refine ⟨hr, ⟨k, fun X hX _ _ => al_old hX, fun X hX => hX.imp id fun h => .inr (by omega), fun X ⟨b, p, h1, h2, h3, h4⟩ => .inl ⟨b, p, h1, h2, h3, fun hF => h4 (.inl hF)⟩⟩, ⟨h.n, fun X hX => ?_, al_wf h.wf, fun b p hb => ?_, fun b b' p p' X hb hb' hp hp' hX hX' hF => h.dj b b' p p' X hb hb' hp hp' hX hX' fun hF' => hF (.inl hF')⟩, ?_, fun X hX _ => al_old hX⟩
  · rcases hX with hX | rfl
    · exact Nat.lt_succ_of_lt (h.fl X hX)
    · exact Nat.lt_succ_self _
  · refine (h.bk b p hb).keep k fun X hp hX hF => ?_
    have := Ow_lt h ⟨b, p, hb, hp, hX, hF⟩
    exact ⟨al_old this, fun h' => h'.elim hF fun e => by omega⟩
  · refine ⟨⟨[], .sl (Nat.lt_succ_self _) (fun i v hi => by simp at hi) (by simp) (by simp) (Nat.le_refl _), fun b hb => ?_, rfl⟩, fun _ b o q n e he => (by cases he), fun _ => .inr ⟨_, _, rfl⟩⟩
    simp only [AV.bk, Option.some.injEq] at hb
    exact .inr hb.symm
end
end Go.AX
