/- AX, part R: a region that draws, run. -/
import Derived.Test.YtjmknbbipadjbaaAxQ
set_option linter.unusedSimpArgs false
set_option linter.unusedVariables false
namespace Go.AX
open Go

theorem Env.put_ne {E : Env} {d : Option Nat} {v : AV} {t : Nat} (h : d ≠ some t) : E.put d v t = E t := by
  cases d with
  | none => rfl
  | some d => simp only [Env.put, Env.st]; rw [if_neg]; rintro rfl; exact h rfl
theorem Env.put_self {E : Env} {v : AV} {t : Nat} : E.put (some t) v t = v := by simp [Env.put, Env.st]
theorem gwant_congr {E E' : Env} {r : ROper} (h : ∀ t ∈ r.reads, E t = E' t) : gwant E r.g = gwant E' r.g := by
  cases hg : r.g with
  | none => rfl
  | some tb =>
    obtain ⟨t, b⟩ := tb
    have : t ∈ r.reads := by simp [ROper.reads, hg]
    simp only [gwant, h t this]
theorem ev_congr {E E' : Env} {r : ROper} (h : ∀ t ∈ r.reads, E t = E' t) : ∀ x ∈ r.o.opds, ev E x = ev E' x := by
  intro x hx
  cases x with
  | t n => exact h n (by simp only [ROper.reads, List.mem_append]; exact .inr (opdT_mem hx))
  | _ => rfl
theorem vals_congr {E E' : Env} {l : List Opd} (h : ∀ x ∈ l, ev E x = ev E' x) : vals E l = vals E' l := List.map_congr_left h

theorem names_d {r : ROper} {d : Nat} (h : r.d = some d) : d ∈ r.names := by simp [ROper.names, h]
theorem names_r {r : ROper} {d : Nat} (h : d ∈ r.reads) : d ∈ r.names := by simp [ROper.names, h]
theorem act_v {r : ROper} {vo : VOp} (h : r.o = .v vo) : r.act = (vo.cls == 2) := by simp [ROper.act, h]
theorem pure_v {r : ROper} {vo : VOp} (h : r.o = .v vo) : r.pure = vo.pure := by simp [ROper.pure, h]
theorem pure_1 {vo : VOp} (h : vo.cls = 1) : vo.pure = false := by
  cases vo <;> first | rfl | exact absurd h (show ¬ ((0 : Nat) = 1) by decide)
section
variable {P : Program} {x : DOp} {E E1 : Env} {H H1 : AH}
theorem DStep.off (h : DStep P x E H E1 H1) (hg : gwant E x.r.g = some false) : E1 = E.put x.r.d (.tu []) ∧ H1 = H := by
  obtain ⟨g, h1, h2⟩ := h
  rw [hg] at h1
  simp only [Option.some.injEq] at h1; subst h1
  simpa using h2
theorem DStep.env (h : DStep P x E H E1 H1) : ∃ v, E1 = E.put x.r.d v := by
  obtain ⟨g, h1, h2⟩ := h
  cases g with
  | false => simp only [Bool.false_eq_true, if_false] at h2; exact ⟨_, h2.1⟩
  | true =>
    simp only [if_true] at h2
    split at h2
    · obtain ⟨v, _, h, _⟩ := h2; exact ⟨v, h⟩
    · obtain ⟨v, _, h, _⟩ := h2; exact ⟨v, h⟩
    · obtain ⟨_, _, v, _, _, _, h, _⟩ := h2; exact ⟨v, h⟩
    · exact h2.elim
theorem DStep.chk (h : DStep P x E H E1 H1) : H1 = H ∨ Rechks x.rk E1 H H1 := by
  obtain ⟨g, h1, h2⟩ := h
  cases g with
  | false => simp only [Bool.false_eq_true, if_false] at h2; exact .inl h2.2
  | true =>
    simp only [if_true] at h2
    split at h2
    · obtain ⟨v, _, _, h⟩ := h2; exact .inr h
    · obtain ⟨v, _, _, h⟩ := h2; exact .inr h
    · obtain ⟨_, _, v, _, _, _, _, h⟩ := h2; exact .inr h
    · exact h2.elim
theorem DStep.quiet (h : DStep P x E H E1 H1) (hq : x.r.act = false) : H1 = H ∨ ∃ l, H1 = H.al l := by
  obtain ⟨g, h1, h2⟩ := h
  cases g with
  | false => simp only [Bool.false_eq_true, if_false] at h2; exact .inl h2.2
  | true =>
    simp only [if_true] at h2
    unfold ROper.act at hq
    cases ho : x.r.o with
    | v vo =>
      rw [ho] at hq h2
      obtain ⟨v, h, _⟩ := h2
      have hc : vo.cls = 0 ∨ vo.cls = 1 := by
        simp only [beq_eq_false_iff_ne, ne_eq] at hq
        cases vo <;> first | exact .inl rfl | exact .inr rfl | exact absurd rfl hq
      rcases hc with hc | hc
      · exact .inl (cls0 hc h)
      · obtain ⟨l, h, _⟩ := cls1_al hc h
        exact .inr ⟨l, h⟩
    | _ => rw [ho] at hq; simp at hq
end

structure DSet (P : Program) (nt : Nat) (ops : Array Oper) (cl ord : List Nat) (l : List ROper) (Es : Nat → Env) (Hs : Nat → AH) : Prop where
  G : Good ops cl ord l
  st : ∀ p, p < ops.size → DStep P ⟨l.getD p default, rkOf cl ord l p⟩ (Es p) (Hs p) (Es (p + 1)) (Hs (p + 1))
  rs : ∀ p, p < ops.size → ∃ o, ops[ord.getD p 0]? = some o ∧ resR P nt ops o = some (l.getD p default)

section
variable {P : Program} {nt : Nat} {ops : Array Oper} {cl ord : List Nat} {l : List ROper} {Es : Nat → Env} {Hs : Nat → AH}
theorem DSet.same (S : DSet P nt ops cl ord l Es Hs) {t p q : Nat} (hpq : p ≤ q) (hq : q ≤ ops.size) (h : ∀ s, p ≤ s → s < q → (l.getD s default).d ≠ some t) : Es q t = Es p t := by
  induction hpq with
  | refl => rfl
  | @step m hm ih =>
    obtain ⟨v, hv⟩ := (S.st m hq).env
    rw [hv, Env.put_ne (h m hm (Nat.lt_succ_self m))]
    exact ih (Nat.le_of_succ_le hq) fun s h1 h2 => h s h1 (Nat.lt_succ_of_lt h2)
/-- What an operation reads, it reads behind an act as before. -/
theorem DSet.reads (S : DSet P nt ops cl ord l Es Hs) {q r : Nat} (hqr : q < r) (hr : r < ops.size) (h1 : ∀ d, (l.getD q default).d = some d → d ∉ (l.getD q default).reads)
    (h2 : ∀ s d, q < s → s ≤ r → (l.getD s default).d = some d → d ∉ (l.getD q default).names) : (∀ t ∈ (l.getD q default).reads, Es (r + 1) t = Es q t) ∧ ∀ d, (l.getD q default).d = some d → Es (r + 1) d = Es (q + 1) d := by
  refine ⟨fun t ht => S.same (by omega) hr fun s hs1 hs2 hd => ?_, fun d hd => S.same (by omega) hr fun s hs1 hs2 hd' => ?_⟩
  · rcases Nat.lt_or_ge q s with h | h
    · exact h2 s t h (by omega) hd (names_r ht)
    · obtain rfl : s = q := by omega
      exact h1 t hd ht
  · exact h2 s d (by omega) (by omega) hd' (names_d hd)
theorem DSet.chain0 (S : DSet P nt ops cl ord l Es Hs) {q s : Nat} (hs : s ≤ ops.size) (hqs : q < s) {vo : VOp} {v : AV} (ho : (l.getD q default).o = .v vo) (hc : vo.cls = 0)
    (hg : gwant (Es q) (l.getD q default).g = some true) (hv : vop vo (Es q) (Hs q) = some (v, Hs q)) (hE : Es (q + 1) = (Es q).put (l.getD q default).d v)
    (hcmp : ∀ r, q < r → r < s → (l.getD r default).act = true → cmpB cl (ord.getD q 0) (ord.getD r 0) = false) (hwf : ∀ r, r < s → (Hs r).g (Hs r).nx = .no) :
    ∀ r, q ≤ r → r ≤ s → vop vo (Es q) (Hs r) = some (v, Hs r) := by
  intro r hqr
  have hqa : (l.getD q default).act = false := by rw [act_v ho, hc]; rfl
  induction hqr with
  | refl => intro _; exact hv
  | @step r hqr ih =>
    intro hrs
    have hqr : q ≤ r := hqr
    have ih := ih (Nat.le_of_succ_le hrs)
    cases ha : (l.getD r default).act with
    | false =>
      rcases (S.st r (by omega)).quiet ha with h | ⟨m, h⟩
      · rw [h]; exact ih
      · rw [h]; exact stable_al hc (hwf r hrs) ih m
    | true =>
      have hlt : q < r := by
        rcases Nat.lt_or_ge q r with h | h
        · exact h
        · obtain rfl : q = r := by omega
          rw [hqa] at ha; cases ha
      by_cases hp : vo.pure = true
      · exact pure_any hp ih
      · have hpp : (l.getD q default).pure = false := by rw [pure_v ho]; simpa using hp
        obtain ⟨m, hds, h1, h2⟩ := S.G.RK q r hlt (by omega) ha hqa hpp (hcmp r hlt hrs ha)
        rcases (S.st r (by omega)).chk with h | h
        · rw [h]; exact ih
        · obtain ⟨_, hck⟩ := h _ m
          obtain ⟨d, hd⟩ := Option.isSome_iff_exists.1 hds
          obtain ⟨e1, e2⟩ := S.reads hlt (by omega) h1 h2
          have e2 := e2 d hd
          rw [hE, hd, Env.put_self] at e2
          rcases hck d hd with hck | hck
          · rw [gwant_congr e1, hg] at hck; cases hck
          · rw [ho] at hck
            simp only [hc, Nat.zero_ne_one, if_false] at hck
            rw [e2, vop_congr (E' := Es q) (fun x hx => ev_congr e1 x (by rw [ho]; exact hx))] at hck
            exact hck
theorem DSet.chain1 (S : DSet P nt ops cl ord l Es Hs) {q s : Nat} (hs : s ≤ ops.size) {vo : VOp} {v : AV} {m : List AV} (ho : (l.getD q default).o = .v vo) (hc : vo.cls = 1)
    (hg : gwant (Es q) (l.getD q default).g = some true) (hm : Hs (q + 1) = (Hs q).al m) (hv : v = .pt (Hs q).nx 0 ∨ ∃ n c, v = .sl (Hs q).nx 0 n c) (hE : Es (q + 1) = (Es q).put (l.getD q default).d v)
    (hcmp : ∀ r, q < r → r < s → (l.getD r default).act = true → cmpB cl (ord.getD q 0) (ord.getD r 0) = false) (hev : ∀ r, r < s → Evo (Hs r) (Hs (r + 1))) :
    ∀ r, q + 1 ≤ r → r ≤ s → (Hs r).g (Hs q).nx = .rw m ∧ (Hs q).nx < (Hs r).nx := by
  intro r hqr
  have hqa : (l.getD q default).act = false := by rw [act_v ho, hc]; rfl
  have hpp : (l.getD q default).pure = false := by rw [pure_v ho]; exact pure_1 hc
  induction hqr with
  | refl => intro _; rw [hm]; simp [AH.al]
  | @step r hqr ih =>
    intro hrs
    have hqr : q + 1 ≤ r := hqr
    obtain ⟨ih1, ih2⟩ := ih (Nat.le_of_succ_le hrs)
    have hnx := (hev r hrs).nx
    refine ⟨?_, Nat.lt_of_lt_of_le ih2 hnx⟩
    show (Hs (r + 1)).g (Hs q).nx = .rw m
    cases ha : (l.getD r default).act with
    | false =>
      rcases (S.st r (by omega)).quiet ha with h | ⟨m', h⟩
      · rw [h]; exact ih1
      · rw [h]; simp only [AH.al]; rw [if_neg (by omega)]; exact ih1
    | true =>
      obtain ⟨mm, hds, h1, h2⟩ := S.G.RK q r (by omega) (by omega) ha hqa hpp (hcmp r (by omega) hrs ha)
      rcases (S.st r (by omega)).chk with h | h
      · rw [h]; exact ih1
      · obtain ⟨_, hck⟩ := h _ mm
        obtain ⟨d, hd⟩ := Option.isSome_iff_exists.1 hds
        obtain ⟨e1, e2⟩ := S.reads (show q < r by omega) (by omega) h1 h2
        have e2 := e2 d hd
        rw [hE, hd, Env.put_self] at e2
        rcases hck d hd with hck | hck
        · rw [gwant_congr e1, hg] at hck; cases hck
        · rw [ho] at hck
          simp only [hc, if_true] at hck
          rw [e2] at hck
          rcases hv with rfl | ⟨n, c, rfl⟩
          · simp only [sameB] at hck; rw [hck]; exact ih1
          · simp only [sameB] at hck; rw [hck]; exact ih1
end

/-! ### What holds while it runs -/
def lst (L : Array Bool) (i : Nat) : Prop := L.getD i false = true
theorem lst_set {L : Array Bool} {i k : Nat} (h : i < L.size) : lst (L.setIfInBounds i true) k ↔ lst L k ∨ k = i := by
  unfold lst
  simp only [Array.getD_eq_getD_getElem?]
  by_cases he : k = i
  · subst he
    simp [h]
  · rw [Array.getElem?_setIfInBounds_ne (fun e => he e.symm)]
    simp [he]
def DL (ord : List Nat) (Hs : Nat → AH) (n : Nat) (D : Nat → Prop) (L : Array Bool) (b : Nat) : Prop := D b ∨ ∃ p, p < n ∧ lst L (ord.getD p 0) ∧ (Hs p).nx ≤ b ∧ b < (Hs (p + 1)).nx

structure Inv (nt : Nat) (ops : Array Oper) (ord : List Nat) (l : List ROper) (Es : Nat → Env) (Hs : Nat → AH) (base : Nat) (D : Nat → Prop) (j0 : Inj) (H : AH) (w0 : World) (dd : List Deferred)
    (L : Array Bool) (s : Nat) (a : Act) (w : World) (j : Inj) (EL : Env) : Prop where
  size : L.size = ops.size
  down : ∀ i, i < ops.size → lst L i → ∀ e ∈ (ops.getD i default).after.toList, Region.binds .any e = true → lst L e.on
  sn : s ≤ ops.size
  acts : ∀ p, p < ops.size → (l.getD p default).act = true → (lst L (ord.getD p 0) ↔ p < s)
  low : ∀ p, p < ops.size → lst L (ord.getD p 0) → p < s
  ev : ∀ r, r < s → Evo (Hs r) (Hs (r + 1))
  wf : ∀ r, r ≤ s → ∀ b, (Hs r).nx ≤ b → (Hs r).g b = .no
  val : ∀ p, p ≤ ops.size → ∀ t, (∀ p', p' < ops.size → (l.getD p' default).d = some t → (lst L (ord.getD p' 0) ↔ p' < p)) → EL t = Es p t
  rel : Rel nt (DL ord Hs ops.size D L) j EL a.tmps
  dfr : a.defers = dd
  post : PostD base D (DL ord Hs ops.size D L) j0 H w0 (Hs s) w j

section
variable {P : Program} {nt : Nat} {ops : Array Oper} {cl ord : List Nat} {l : List ROper} {Es : Nat → Env} {Hs : Nat → AH}
variable {base : Nat} {D : Nat → Prop} {j0 : Inj} {H : AH} {w0 : World} {dd : List Deferred} {L : Array Bool} {s : Nat} {a : Act} {w : World} {j : Inj} {EL : Env}

theorem Inv.raise1 (I : Inv nt ops ord l Es Hs base D j0 H w0 dd L s a w j EL) (S : DSet P nt ops cl ord l Es Hs) (hlt : ∀ b, D b → b < H.nx) (hs : s < ops.size) (hq : (l.getD s default).act = false) :
    Inv nt ops ord l Es Hs base D j0 H w0 dd L (s + 1) a w j EL := by
  have h := (S.st s hs).quiet hq
  refine ⟨I.size, I.down, hs, fun p hp ha => ?_, fun p hp h => Nat.lt_succ_of_lt (I.low p hp h), fun r hr => ?_, fun r hr => ?_, I.val, I.rel, I.dfr, ?_⟩
  · rw [I.acts p hp ha]
    constructor
    · intro h; omega
    · intro h
      rcases Nat.lt_or_ge p s with h' | h'
      · exact h'
      · obtain rfl : p = s := by omega
        rw [hq] at ha; cases ha
  · rcases Nat.lt_or_ge r s with h' | h'
    · exact I.ev r h'
    · obtain rfl : r = s := by omega
      rcases h with h | ⟨m, h⟩
      · rw [h]; exact Evo.refl _
      · rw [h]; exact Evo.al _ _
  · rcases Nat.lt_or_ge s r with h' | h'
    · obtain rfl : r = s + 1 := by omega
      have := I.wf s (Nat.le_refl _)
      rcases h with h | ⟨m, h⟩
      · rw [h]; exact this
      · rw [h]
        intro b hb
        simp only [AH.al] at hb ⊢
        rw [if_neg (by omega)]
        exact this b (by omega)
    · exact I.wf r h'
  · rcases h with h | ⟨m, h⟩
    · rw [h]; exact I.post
    · rw [h]; exact I.post.lift m hlt
theorem Inv.raise (S : DSet P nt ops cl ord l Es Hs) (hlt : ∀ b, D b → b < H.nx) {q : Nat} (hsq : s ≤ q) (hq : q ≤ ops.size) (h : ∀ r, s ≤ r → r < q → (l.getD r default).act = false)
    (I : Inv nt ops ord l Es Hs base D j0 H w0 dd L s a w j EL) : Inv nt ops ord l Es Hs base D j0 H w0 dd L q a w j EL := by
  induction hsq with
  | refl => exact I
  | @step m hm ih => exact (ih (Nat.le_of_succ_le hq) fun r h1 h2 => h r h1 (Nat.lt_succ_of_lt h2)).raise1 S hlt hq (h m hm (Nat.lt_succ_self m))

/-- An operation that stands ready. -/
structure Rdy (ops : Array Oper) (ord : List Nat) (L : Array Bool) (q : Nat) : Prop where
  lt : q < ops.size
  un : ¬ lst L (ord.getD q 0)
  pre : ∀ e ∈ (ops.getD (ord.getD q 0) default).after.toList, Region.binds .any e = true → lst L e.on

theorem Inv.before (I : Inv nt ops ord l Es Hs base D j0 H w0 dd L s a w j EL) (S : DSet P nt ops cl ord l Es Hs) {q : Nat} (R : Rdy ops ord L q) {i : Nat} (h : cmpB cl i (ord.getD q 0) = true) : lst L i :=
  S.G.closed (listed := lst L) I.down _ (S.G.bnd q R.lt) R.pre i h
theorem Inv.behind (I : Inv nt ops ord l Es Hs base D j0 H w0 dd L s a w j EL) (S : DSet P nt ops cl ord l Es Hs) {p : Nat} (hp : p < ops.size) (hl : lst L (ord.getD p 0)) {i : Nat} (h : cmpB cl i (ord.getD p 0) = true) : lst L i :=
  S.G.closed (listed := lst L) I.down _ (S.G.bnd p hp) (I.down _ (S.G.bnd p hp) hl) i h
/-- Of what writes an operation's temporaries, just what stands before it is listed. -/
theorem Inv.writers (I : Inv nt ops ord l Es Hs base D j0 H w0 dd L s a w j EL) (S : DSet P nt ops cl ord l Es Hs) {q : Nat} (R : Rdy ops ord L q) {t : Nat} (ht : t ∈ (l.getD q default).names) {p : Nat} (hp : p < ops.size) (hd : (l.getD p default).d = some t) :
    lst L (ord.getD p 0) ↔ p < q := by
  rcases Nat.lt_trichotomy p q with h | h | h
  · refine ⟨fun _ => h, fun _ => ?_⟩
    rcases S.G.T p q t hp R.lt (by omega) hd ht with h' | h'
    · exact I.before S R h'
    · rw [S.G.O p q h R.lt] at h'; cases h'
  · subst h; exact ⟨fun h => absurd h R.un, fun h => by omega⟩
  · refine ⟨fun hl => ?_, fun h' => by omega⟩
    rcases S.G.T p q t hp R.lt (by omega) hd ht with h' | h'
    · rw [S.G.O q p h hp] at h'; cases h'
    · exact absurd (I.behind S hp hl h') R.un
theorem Inv.reads (I : Inv nt ops ord l Es Hs base D j0 H w0 dd L s a w j EL) (S : DSet P nt ops cl ord l Es Hs) {q : Nat} (R : Rdy ops ord L q) : ∀ t ∈ (l.getD q default).reads, EL t = Es q t := fun t ht =>
  I.val q (Nat.le_of_lt R.lt) t fun p hp hd => I.writers S R (names_r ht) hp hd

theorem Inv.next (I : Inv nt ops ord l Es Hs base D j0 H w0 dd L s a w j EL) (S : DSet P nt ops cl ord l Es Hs) {q : Nat} (R : Rdy ops ord L q) {s' : Nat} {a' : Act} {w' : World} {j' : Inj} {v : AV}
    (hE : Es (q + 1) = (Es q).put (l.getD q default).d v)
    (hs : (s' = s ∧ q < s ∧ (l.getD q default).act = false) ∨ (s' = q + 1 ∧ s = q ∧ Evo (Hs q) (Hs (q + 1)) ∧ ∀ b, (Hs (q + 1)).nx ≤ b → (Hs (q + 1)).g b = .no))
    (hrel : Rel nt (Dnew (DL ord Hs ops.size D L) (Hs q) (Hs (q + 1))) j' (EL.put (l.getD q default).d v) a'.tmps) (hd : a'.defers = dd)
    (hpost : PostD base D (Dnew (DL ord Hs ops.size D L) (Hs q) (Hs (q + 1))) j0 H w0 (Hs s') w' j') :
    Inv nt ops ord l Es Hs base D j0 H w0 dd (L.setIfInBounds (ord.getD q 0) true) s' a' w' j' (EL.put (l.getD q default).d v) := by
  have hb : ord.getD q 0 < L.size := by rw [I.size]; exact S.G.bnd q R.lt
  have hset : ∀ k, lst (L.setIfInBounds (ord.getD q 0) true) k ↔ lst L k ∨ k = ord.getD q 0 := fun k => lst_set hb
  have hl : ∀ p, p < ops.size → (lst (L.setIfInBounds (ord.getD q 0) true) (ord.getD p 0) ↔ lst L (ord.getD p 0) ∨ p = q) := fun p hp => by
    rw [hset]
    exact or_congr Iff.rfl ⟨fun h => S.G.uni p q hp R.lt h, fun h => by rw [h]⟩
  have hDL : DL ord Hs ops.size D (L.setIfInBounds (ord.getD q 0) true) = Dnew (DL ord Hs ops.size D L) (Hs q) (Hs (q + 1)) := by
    funext b
    apply propext
    unfold DL Dnew
    constructor
    · rintro (h | ⟨p, hp, h1, h2, h3⟩)
      · exact .inl (.inl h)
      · rcases (hl p hp).1 h1 with h1 | rfl
        · exact .inl (.inr ⟨p, hp, h1, h2, h3⟩)
        · exact .inr ⟨h2, h3⟩
    · rintro ((h | ⟨p, hp, h1, h2, h3⟩) | ⟨h2, h3⟩)
      · exact .inl h
      · exact .inr ⟨p, hp, (hl p hp).2 (.inl h1), h2, h3⟩
      · exact .inr ⟨q, R.lt, (hl q R.lt).2 (.inr rfl), h2, h3⟩
  refine ⟨by simp [I.size], ?_, ?_, ?_, ?_, ?_, ?_, ?_, by rw [hDL]; exact hrel, hd, by rw [hDL]; exact hpost⟩
  · intro i hi hli e he hbnd
    rw [hset] at hli ⊢
    rcases hli with hli | rfl
    · exact .inl (I.down i hi hli e he hbnd)
    · exact .inl (R.pre e he hbnd)
  · rcases hs with ⟨rfl, _, _⟩ | ⟨rfl, _, _⟩
    · exact I.sn
    · exact R.lt
  · intro p hp ha
    rw [hl p hp]
    rcases hs with ⟨rfl, h2, h3⟩ | ⟨rfl, rfl, _⟩
    · rw [I.acts p hp ha]
      exact ⟨fun h => h.elim id fun e => by rw [e]; exact h2, .inl⟩
    · rw [I.acts p hp ha]
      exact ⟨fun h => by omega, fun h => by omega⟩
  · intro p hp h
    rcases (hl p hp).1 h with h | rfl
    · have := I.low p hp h
      rcases hs with ⟨rfl, h2, h3⟩ | ⟨rfl, rfl, _⟩ <;> omega
    · rcases hs with ⟨rfl, h2, h3⟩ | ⟨rfl, rfl, _⟩ <;> omega
  · intro r hr
    rcases hs with ⟨rfl, h2, h3⟩ | ⟨rfl, rfl, h, _⟩
    · exact I.ev r hr
    · rcases Nat.lt_or_ge r s with h' | h'
      · exact I.ev r h'
      · obtain rfl : r = s := by omega
        exact h
  · intro r hr
    rcases hs with ⟨rfl, h2, h3⟩ | ⟨rfl, rfl, _, h⟩
    · exact I.wf r hr
    · rcases Nat.lt_or_ge s r with h' | h'
      · obtain rfl : r = s + 1 := by omega
        exact h
      · exact I.wf r h'
  · intro p hp t ht
    by_cases hdt : (l.getD q default).d = some t
    · rw [hdt, Env.put_self]
      have hqp : q < p := ((ht q R.lt hdt).1 ((hl q R.lt).2 (.inr rfl)))
      have := S.same (t := t) (p := q + 1) (q := p) hqp hp fun s hs1 hs2 hds => by
        have h1 := (ht s (by omega) hds).2 hs2
        rcases (hl s (by omega)).1 h1 with h1 | h1
        · have := (I.writers S R (t := t) (names_d hdt) (by omega) hds).1 h1
          omega
        · omega
      rw [this, hE, hdt, Env.put_self]
    · rw [Env.put_ne hdt]
      refine I.val p hp t fun p' hp' hd' => ?_
      rw [← ht p' hp' hd', hl p' hp']
      exact ⟨.inl, fun h => h.elim id fun e => by rw [e] at hd'; exact absurd hd' hdt⟩
end

end Go.AX
