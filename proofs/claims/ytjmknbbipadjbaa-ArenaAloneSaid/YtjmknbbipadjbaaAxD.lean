/- AX, part D: an operation of the program's, its types looked up; and that what it yields is so (values). -/
import Derived.Test.YtjmknbbipadjbaaAxC
import Derived.Laws.StructEq
import Derived.Laws.Strings
set_option linter.unusedSimpArgs false
set_option linter.unusedVariables false
namespace Go.AX
open Go

/-! ### Closed values -/
def absS : Value → Option AV
  | .bool b => some (.bo b)
  | .int k n => some (.it k n)
  | .float k n => some (.fl k n)
  | .string s => some (.st s)
  | .pointer none => some .np
  | .slice none n c => if n = 0 ∧ c = 0 then some .sn else none
  | .nilFunc => some .nf
  | .nilIface => some .ni
  | .map none => some .mn
  | _ => none
theorem absS_con {j : Inj} {D : Nat → Prop} {v : Value} {a : AV} (h : absS v = some a) : a.con j = v ∧ a.ok D ∧ a.sc = true := by
  unfold absS at h
  split at h <;> first
    | (simp only [Option.some.injEq] at h; subst h; exact ⟨rfl, by simp [AV.ok], rfl⟩)
    | (split at h <;> simp only [Option.some.injEq, reduceCtorEq] at h; rename_i hc; obtain ⟨rfl, rfl⟩ := hc; subst h; exact ⟨rfl, by simp [AV.ok], rfl⟩)
    | cases h
def absL : List Value → Option (List AV)
  | [] => some []
  | v :: r => (absS v).bind fun a => (absL r).map (a :: ·)
theorem absL_con {j : Inj} {D : Nat → Prop} : ∀ {l : List Value} {m : List AV}, absL l = some m → AV.conL j m = l ∧ AV.okL D m ∧ AV.scL m = true
  | [], m, h => by simp only [absL, Option.some.injEq] at h; subst h; exact ⟨rfl, by simp only [AV.okL], rfl⟩
  | v :: r, m, h => by
    simp only [absL, Option.bind_eq_some_iff, Option.map_eq_some_iff] at h
    obtain ⟨a, ha, m', hm, rfl⟩ := h
    obtain ⟨h1, h2, h3⟩ := absS_con (j := j) (D := D) ha
    obtain ⟨h4, h5, h6⟩ := absL_con (j := j) (D := D) hm
    exact ⟨by simp only [AV.conL, h1, h4], ⟨h2, h5⟩, by simp only [AV.scL, List.all_cons, h3, Bool.true_and]; exact h6⟩
def absV : Value → Option AV
  | .agg cs => (absL cs.toList).map .ag
  | .tuple cs => (absL cs.toList).map .tu
  | .iface t v => (absS v).map (.fc t)
  | v => absS v
theorem absV_con {j : Inj} {D : Nat → Prop} {v : Value} {a : AV} (h : absV v = some a) : a.con j = v ∧ a.ok D := by
  unfold absV at h
  split at h
  · obtain ⟨m, hm, rfl⟩ := Option.map_eq_some_iff.1 h
    obtain ⟨h4, h5, h6⟩ := absL_con (j := j) (D := D) hm
    exact ⟨by simp [AV.con, h4], h5, h6⟩
  · obtain ⟨m, hm, rfl⟩ := Option.map_eq_some_iff.1 h
    obtain ⟨h4, h5, h6⟩ := absL_con (j := j) (D := D) hm
    exact ⟨by simp [AV.con, h4], h5⟩
  · obtain ⟨m, hm, rfl⟩ := Option.map_eq_some_iff.1 h
    obtain ⟨h4, h5, h6⟩ := absS_con (j := j) (D := D) hm
    exact ⟨by simp [AV.con, h4], h5⟩
  · obtain ⟨h4, h5, _⟩ := absS_con (j := j) (D := D) h; exact ⟨h4, h5⟩

/-! ### Operands -/
def resO (nt : Nat) : Operand → Option Opd
  | .tmp t => if t < nt then some (.t t) else none
  | .const v => (absV v).map .k
  | .func f => some (.f f)
  | .global _ => none
/-- The frame's temporaries, told. -/
structure Rel (nt : Nat) (D : Nat → Prop) (j : Inj) (E : Env) (tm : Array Value) : Prop where
  size : tm.size = nt
  get : ∀ t, t < nt → tm.getD t undef = (E t).con j
  ok : ∀ t, t < nt → (E t).ok D
theorem Rel.ev {nt : Nat} {D : Nat → Prop} {j : Inj} {E : Env} {a : Act} (R : Rel nt D j E a.tmps) {x : Operand} {o : Opd} (h : resO nt x = some o) :
    a.eval x = (ev E o).con j ∧ (ev E o).ok D := by
  cases x with
  | tmp t =>
    simp only [resO] at h
    split at h
    · rename_i ht
      simp only [Option.some.injEq] at h; subst h
      exact ⟨R.get t ht, R.ok t ht⟩
    · cases h
  | const v =>
    obtain ⟨a', ha, rfl⟩ := Option.map_eq_some_iff.1 h
    obtain ⟨h1, h2⟩ := absV_con (j := j) (D := D) ha
    exact ⟨h1.symm, h2⟩
  | func f =>
    simp only [resO, Option.some.injEq] at h; subst h
    exact ⟨by simp [Act.eval, AX.ev, AV.con, AV.conL], by simp [AX.ev, AV.ok, AV.okL]⟩
  | global g => simp [resO] at h

/-! ### Types -/
def isAggD : TypeDesc → Bool
  | .struct _ => true
  | .array _ _ => true
  | _ => false
def aggT (P : Program) (t : TypeId) : Option Bool := (P.underlying t).map isAggD
def sizT (P : Program) (t : TypeId) : Option Nat := (P.info? t).map (·.size)
def zerT (P : Program) (t : TypeId) : Option (List AV) := (P.info? t).bind fun i => i.zero.bind fun z => absL z.cells.toList
theorem run_isAgg' {P : Program} {t : TypeId} {b : Bool} (h : aggT P t = some b) (w : World) : (isAgg t).run P w = .ok b w := by
  obtain ⟨d, hd, rfl⟩ := Option.map_eq_some_iff.1 h
  unfold isAgg
  rw [Sem.run_bind, run_underlying hd w]
  cases d <;> simp [isAggD]
theorem run_sizeOf' {P : Program} {t : TypeId} {n : Nat} (h : sizT P t = some n) (w : World) : (sizeOf t).run P w = .ok n w := by
  obtain ⟨i, hi, rfl⟩ := Option.map_eq_some_iff.1 h
  simp [sizeOf, typeInfo, hi]
theorem run_zero' {P : Program} {t : TypeId} {z : List AV} (h : zerT P t = some z) (j : Inj) (D : Nat → Prop) (w : World) :
    ∃ v, (zeroValue t).run P w = .ok v w ∧ v.cells = (AV.conL j z).toArray ∧ AV.okL D z ∧ AV.scL z = true := by
  simp only [zerT, Option.bind_eq_some_iff] at h
  obtain ⟨i, hi, v, hv, h⟩ := h
  obtain ⟨h4, h5, h6⟩ := absL_con (j := j) (D := D) h
  exact ⟨v, by simp [zeroValue, typeInfo, hi, hv], by rw [h4], h5, h6⟩

/-! ### What is to be shown of an operation -/
def Snd (P : Program) (base : Nat) (D : Nat → Prop) (j : Inj) (H : AH) (w : World) (ρ : Operand → Value) (o : Oper) (v : AV) (H' : AH) : Prop :=
  ∃ n w' j', (execOp ρ o).run P w = .ok n w' ∧ (n = .value (v.con j') ∨ n = .skip ∧ v = .tu []) ∧ v.ok (Dnew D H H') ∧ Post base D j H w H' w' j'
section
variable {P : Program} {base : Nat} {D : Nat → Prop} {j : Inj} {H H' : AH} {w : World} {ρ : Operand → Value} {o : Oper} {v : AV}
theorem Snd.same (S : Sim base D j H w) (h : (execOp ρ o).run P w = .ok (.value (v.con j)) w) (hv : v.ok D) : Snd P base D j H w ρ o v H :=
  ⟨_, w, j, h, .inl rfl, ok_Dnew hv, Post.refl S⟩
end

/-! ### Numbers -/
theorem intBin_run {P : Program} {w : World} {j : Inj} {op : BinOp} {k : IntKind} {a b : Int} {v : AV} (hs : BinOp.isSh op = false) (h : intBin op k a b = some v) (t : TypeId) :
    (binOp op t (.int k a) (.int k b)).run P w = .ok (v.con j) w := by
  cases op <;> simp only [intBin, Option.some.injEq, reduceCtorEq] at h <;> try (subst h; simp [binOp, Op.intArith, Op.intBits, Op.intCmp, AV.con, Go.bits]; done)
  all_goals first
    | (simp [BinOp.isSh] at hs; done)
    | (split at h
       · cases h
       · rename_i hb
         simp only [Option.some.injEq] at h; subst h
         simp [binOp, Op.intDiv, hb, AV.con])
theorem shBin_run {P : Program} {w : World} {j : Inj} {op : BinOp} {k k' : IntKind} {a b : Int} {v : AV} (hs : BinOp.isSh op = true) (h : shBin op k a b = some v) (t : TypeId) :
    (binOp op t (.int k a) (.int k' b)).run P w = .ok (v.con j) w := by
  unfold shBin at h
  split at h
  · cases h
  · rename_i hb
    cases op <;> simp only [BinOp.isSh, Bool.false_eq_true] at hs <;> simp only [Option.some.injEq] at h <;> subst h <;> simp [binOp, Op.shift, hb, AV.con]
theorem con_it {j : Inj} {v : AV} {k : IntKind} {n : Int} (h : v = .it k n) : v.con j = .int k n := by subst h; rfl

/-- The cells that '==' holds against each other, of a type. -/
def leaves (P : Program) : Nat → TypeId → Nat → Option (List (Nat × Nat))
  | 0, _, _ => none
  | d + 1, t, o =>
    match P.underlying t with
    | some (.int _) => if sizT P t = some 1 then some [(o, 0)] else none
    | some .bool => if sizT P t = some 1 then some [(o, 1)] else none
    | some .string => if sizT P t = some 1 then some [(o, 2)] else none
    | some (.struct fs) => if P.stoodInHeld t then none else (sizT P t).bind fun s => leavesF P d s fs.toList o
    | some (.array n e) => (sizT P t).bind fun s => (sizT P e).bind fun z => if n * z ≤ s then leavesA P d e z o n 0 else none
    | _ => none
where
  leavesF (P : Program) (d s : Nat) : List Field → Nat → Option (List (Nat × Nat))
    | [], _ => some []
    | f :: fs, o => if f.name = "_" then leavesF P d s fs o else (sizT P f.type).bind fun z => if f.offset + z ≤ s then (leaves P d f.type (o + f.offset)).bind fun l => (leavesF P d s fs o).map (l ++ ·) else none
  leavesA (P : Program) (d : Nat) (e : TypeId) (z o : Nat) : Nat → Nat → Option (List (Nat × Nat))
    | 0, _ => some []
    | n + 1, i => (leaves P d e (o + i * z)).bind fun l => (leavesA P d e z o n (i + 1)).map (l ++ ·)

theorem alleq_append {xs ys : List AV} : ∀ {l m : List (Nat × Nat)} {e : Bool}, alleq xs ys (l ++ m) = some e → ∃ e1 e2, alleq xs ys l = some e1 ∧ alleq xs ys m = some e2 ∧ e = (e1 && e2)
  | [], m, e, h => ⟨true, e, rfl, h, by simp⟩
  | o :: r, m, e, h => by
    simp only [List.cons_append, alleq, Option.bind_eq_some_iff] at h
    obtain ⟨a, ha, b, hb, c, hc, q, hq, h⟩ := h
    obtain ⟨e1, e2, h1, h2, rfl⟩ := alleq_append hq
    simp only [Option.some.injEq] at h
    exact ⟨c && e1, e2, by simp [alleq, ha, hb, hc, h1], h2, by rw [← h, Bool.and_assoc]⟩

/-- A part of a value's cells, as the model takes it out. -/
def partV (P : Program) (t : TypeId) (X : Array Value) (o s : Nat) : Option Value :=
  match aggT P t with
  | some true => some (.agg (X.extract o (o + s)))
  | some false => X[o]?
  | none => none
theorem run_part' {P : Program} {t : TypeId} {X : Array Value} {o s : Nat} {v : Value} (hs : sizT P t = some s) (h : partV P t X o s = some v) (w : World) : (part t X o).run P w = .ok v w := by
  unfold partV at h
  unfold part
  split at h
  · rename_i ha
    simp only [Option.some.injEq] at h; subst h
    simp [run_isAgg' ha, run_sizeOf' hs]
  · rename_i ha
    simp only [Sem.run_bind, run_isAgg' ha, Result.andThen_ok, Bool.false_eq_true, if_false, h, Sem.run_pure]
  · cases h
theorem extract_extract {X : Array Value} {o s a b : Nat} (h : a + b ≤ s) : (X.extract o (o + s)).extract a (a + b) = X.extract (o + a) (o + a + b) := by
  apply Array.ext_getElem?
  intro i
  simp only [Array.getElem?_extract, Array.size_extract]
  repeat' split
  all_goals first
    | rfl
    | (congr 1; omega)
    | (exfalso; omega)
    | (symm; apply Array.getElem?_eq_none; omega)
    | (apply Array.getElem?_eq_none; omega)
theorem extract_get {X : Array Value} {o s a : Nat} (h : a < s) : (X.extract o (o + s))[a]? = X[o + a]? := by
  rw [Array.getElem?_extract]
  split
  · rfl
  · symm; apply Array.getElem?_eq_none; omega

theorem alleq_one {xs ys : List AV} {o k : Nat} {e : Bool} (h : alleq xs ys [(o, k)] = some e) : ∃ a b, xs[o]? = some a ∧ ys[o]? = some b ∧ sceqK k a b = some e := by
  simp only [alleq, Option.bind_eq_some_iff] at h
  obtain ⟨a, ha, b, hb, c, hc, q, hq, h⟩ := h
  simp only [Option.some.injEq] at hq h
  subst hq
  simp only [Bool.and_true] at h
  subst h
  exact ⟨a, b, ha, hb, hc⟩
theorem conA_get {j : Inj} {xs : List AV} {o : Nat} {a : AV} (h : xs[o]? = some a) : (AV.conL j xs).toArray[o]? = some (a.con j) := by
  simp only [List.getElem?_toArray]
  rw [conL_get, h]; rfl

theorem leaf_run {P : Program} {xs ys : List AV} {j : Inj} {w : World} {d : Nat} {t : TypeId} {o k s : Nat} {e : Bool} {dd : TypeDesc} (hu : P.underlying t = some dd)
    (hk : (k = 0 ∧ ∃ kk, dd = .int kk) ∨ (k = 1 ∧ dd = .bool) ∨ (k = 2 ∧ dd = .string)) (he : alleq xs ys [(o, k)] = some e)
    {vx vy : Value} (hx : partV P t (AV.conL j xs).toArray o s = some vx) (hy : partV P t (AV.conL j ys).toArray o s = some vy) :
    (Op.equalIn (d + 1) t vx vy).run P w = .ok e w := by
  obtain ⟨a, b, ha, hb, hc⟩ := alleq_one he
  have hag : aggT P t = some false := by
    unfold aggT; rw [hu]
    rcases hk with ⟨_, kk, rfl⟩ | ⟨_, rfl⟩ | ⟨_, rfl⟩ <;> rfl
  unfold partV at hx hy
  rw [hag] at hx hy
  simp only at hx hy
  rw [conA_get ha] at hx
  rw [conA_get hb] at hy
  simp only [Option.some.injEq] at hx hy
  subst hx; subst hy
  rcases hk with ⟨rfl, kk, rfl⟩ | ⟨rfl, rfl⟩ | ⟨rfl, rfl⟩
  · cases a <;> cases b <;> simp only [sceqK, reduceCtorEq] at hc
    split at hc
    · rename_i hkk; subst hkk
      simp only [Option.some.injEq] at hc; subst hc
      exact run_equalIn_int w d t _ kk _ _ hu
    · cases hc
  · cases a <;> cases b <;> simp only [sceqK, reduceCtorEq] at hc
    simp only [Option.some.injEq] at hc; subst hc
    exact run_equalIn_bool' w d t _ _ hu
  · cases a <;> cases b <;> simp only [sceqK, reduceCtorEq] at hc
    simp only [Option.some.injEq] at hc; subst hc
    exact run_equalIn_string w d t _ _ hu

theorem partV_sub {P : Program} {t : TypeId} {X : Array Value} {o s a b : Nat} {v : Value} (hab : a + b ≤ s) (hb : 0 < b ∨ aggT P t = some true) (h : partV P t (X.extract o (o + s)) a b = some v) : partV P t X (o + a) b = some v := by
  unfold partV at h ⊢
  split at h
  · rename_i ha
    rw [extract_extract hab] at h
    exact h
  · rename_i ha
    have h0 : a < s := by
      rcases hb with hb | hb
      · omega
      · rw [ha] at hb; cases hb
    rw [extract_get h0] at h
    exact h
  · cases h
theorem partV_mk {P : Program} {t : TypeId} {X : Array Value} {o s a b : Nat} {v : Value} (hab : a + b ≤ s) (h : partV P t X (o + a) b = some v) (hb : 0 < b ∨ aggT P t = some true) : partV P t (X.extract o (o + s)) a b = some v := by
  unfold partV at h ⊢
  split at h
  · rw [extract_extract hab]; exact h
  · rename_i ha
    have h0 : a < s := by
      rcases hb with hb | hb
      · omega
      · rw [ha] at hb; cases hb
    rw [extract_get h0]; exact h
  · cases h

theorem leaves_parts {P : Program} {xs ys : List AV} {j : Inj} {d : Nat} {t : TypeId} {o z : Nat} {L : List (Nat × Nat)} {e : Bool} (hL : leaves P d t o = some L) (hz : sizT P t = some z) (he : alleq xs ys L = some e) :
    (0 < z ∨ aggT P t = some true) ∧ ∃ vx vy, partV P t (AV.conL j xs).toArray o z = some vx ∧ partV P t (AV.conL j ys).toArray o z = some vy := by
  cases d with
  | zero => simp [leaves] at hL
  | succ d =>
    have leaf : ∀ k dd, P.underlying t = some dd → isAggD dd = false → sizT P t = some 1 → alleq xs ys [(o, k)] = some e →
        (0 < z ∨ aggT P t = some true) ∧ ∃ vx vy, partV P t (AV.conL j xs).toArray o z = some vx ∧ partV P t (AV.conL j ys).toArray o z = some vy := by
      intro k dd hu hd h1 he
      obtain ⟨a, b, ha, hb, _⟩ := alleq_one he
      have hag : aggT P t = some false := by unfold aggT; rw [hu, ← hd]; rfl
      rw [hz] at h1
      simp only [Option.some.injEq] at h1
      refine ⟨.inl (by omega), a.con j, b.con j, ?_, ?_⟩
      · unfold partV; rw [hag]; exact conA_get ha
      · unfold partV; rw [hag]; exact conA_get hb
    have agg : aggT P t = some true → (0 < z ∨ aggT P t = some true) ∧ ∃ vx vy, partV P t (AV.conL j xs).toArray o z = some vx ∧ partV P t (AV.conL j ys).toArray o z = some vy := by
      intro hag
      refine ⟨.inr hag, .agg ((AV.conL j xs).toArray.extract o (o + z)), .agg ((AV.conL j ys).toArray.extract o (o + z)), ?_, ?_⟩ <;> (unfold partV; rw [hag])
    unfold leaves at hL
    split at hL
    · rename_i kk hu
      split at hL
      · simp only [Option.some.injEq] at hL; subst hL; exact leaf _ _ hu rfl ‹_› he
      · cases hL
    · rename_i hu
      split at hL
      · simp only [Option.some.injEq] at hL; subst hL; exact leaf _ _ hu rfl ‹_› he
      · cases hL
    · rename_i hu
      split at hL
      · simp only [Option.some.injEq] at hL; subst hL; exact leaf _ _ hu rfl ‹_› he
      · cases hL
    · rename_i fs hu; exact agg (by unfold aggT; rw [hu]; rfl)
    · rename_i n e hu; exact agg (by unfold aggT; rw [hu]; rfl)
    · cases hL

def arrEq (d : Nat) (e : TypeId) (z : Nat) (X Y : Array Value) : Nat → Nat → Sem Bool
  | 0, _ => pure true
  | n + 1, i => do
    let a ← part e X (i * z)
    let b ← part e Y (i * z)
    let q ← Op.equalIn d e a b
    if (!q) = true then pure false else arrEq d e z X Y n (i + 1)
theorem run_equalIn_array {P : Program} {w : World} {d n : Nat} {t e : TypeId} {z : Nat} {X Y : Array Value} (hu : P.underlying t = some (.array n e)) (hz : sizT P e = some z) :
    (Op.equalIn (d + 1) t (.agg X) (.agg Y)).run P w = (arrEq d e z X Y n 0).run P w := by
  simp only [Op.equalIn, Sem.run_bind, run_underlying hu, Result.andThen_ok, run_sizeOf' hz]
  rw [Std.Legacy.Range.forIn_eq_forIn_range']
  simp only [Std.Legacy.Range.size, Nat.sub_zero, Nat.add_sub_cancel, Nat.div_one]
  generalize 0 = i
  clear hu
  induction n generalizing i w with
  | zero => simp [arrEq]
  | succ n ih =>
    simp only [List.range'_succ, List.forIn_cons, arrEq, Sem.run_bind]
    generalize (part e X (i * z)).run P w = r1
    cases r1 with
    | ok a w1 =>
      simp only [Result.andThen_ok]
      generalize (part e Y (i * z)).run P w1 = r2
      cases r2 with
      | ok b w2 =>
        simp only [Result.andThen_ok]
        generalize (Op.equalIn d e a b).run P w2 = r3
        cases r3 with
        | ok r w3 =>
          cases r
          · simp only [Result.andThen_ok, Bool.not_false, if_true, Sem.run_pure]
          · simp only [Result.andThen_ok, Bool.not_true, Bool.false_eq_true, if_false, Sem.run_pure]
            exact ih (w := w3) (i + 1)
        | halt x w3 => simp [Result.andThen]
      | halt x w2 => simp [Result.andThen]
    | halt x w1 => simp [Result.andThen]

theorem equal_runs {P : Program} {xs ys : List AV} {j : Inj} {w : World} : ∀ (d : Nat) (t : TypeId) (o s : Nat) (L : List (Nat × Nat)) (e : Bool), leaves P d t o = some L → sizT P t = some s → alleq xs ys L = some e →
    ∀ vx vy, partV P t (AV.conL j xs).toArray o s = some vx → partV P t (AV.conL j ys).toArray o s = some vy → (Op.equalIn d t vx vy).run P w = .ok e w := by
  intro d
  induction d with
  | zero => intro t o s L e h; simp [leaves] at h
  | succ d ih =>
    intro t o s L e hL hs he vx vy hx hy
    unfold leaves at hL
    split at hL
    · rename_i kk hu
      split at hL
      · simp only [Option.some.injEq] at hL; subst hL
        exact leaf_run hu (.inl ⟨rfl, kk, rfl⟩) he hx hy
      · cases hL
    · rename_i hu
      split at hL
      · simp only [Option.some.injEq] at hL; subst hL
        exact leaf_run hu (.inr (.inl ⟨rfl, rfl⟩)) he hx hy
      · cases hL
    · rename_i hu
      split at hL
      · simp only [Option.some.injEq] at hL; subst hL
        exact leaf_run hu (.inr (.inr ⟨rfl, rfl⟩)) he hx hy
      · cases hL
    · rename_i fs hu
      split at hL
      · cases hL
      · rename_i hst
        rw [hs] at hL
        simp only [Option.bind_some] at hL
        have hag : aggT P t = some true := by unfold aggT; rw [hu]; rfl
        unfold partV at hx hy
        rw [hag] at hx hy
        simp only [Option.some.injEq] at hx hy
        subst hx; subst hy
        have hfo : P.fieldsOf t = fs := by simp [Program.fieldsOf, hu]
        rw [run_equalIn_struct w d t _ _ (by rw [hfo]; exact hu) (by simpa using hst), hfo]
        generalize fs.toList = fl at hL
        clear hu hfo
        induction fl generalizing L e with
        | nil =>
          simp only [leaves.leavesF, Option.some.injEq] at hL; subst hL
          simp only [alleq, Option.some.injEq] at he; subst he
          simp [Op.eqFields]
        | cons f fr ihf =>
          simp only [leaves.leavesF] at hL
          split at hL
          · rename_i hn
            simp only [Op.eqFields, hn, ne_eq, not_true, if_false]
            exact ihf L e he hL
          · rename_i hn
            simp only [Option.bind_eq_some_iff] at hL
            obtain ⟨z, hz, hL⟩ := hL
            split at hL
            · rename_i hfit
              simp only [Option.bind_eq_some_iff, Option.map_eq_some_iff] at hL
              obtain ⟨l1, h1, l2, h2, rfl⟩ := hL
              obtain ⟨e1, e2, g1, g2, rfl⟩ := alleq_append he
              obtain ⟨hz0, ux, uy, px, py⟩ := leaves_parts (j := j) h1 hz g1
              have r1 := run_part' hz (partV_mk hfit px hz0) w
              have r2 := run_part' hz (partV_mk hfit py hz0) w
              have r3 := ih f.type (o + f.offset) z l1 e1 h1 hz g1 ux uy px py
              have r4 := ihf l2 e2 g2 h2
              simp only [Op.eqFields, hn, ne_eq, not_false_eq_true, if_true, Sem.run_bind, r1, r2, r3, Result.andThen_ok]
              cases e1 with
              | true => simpa using r4
              | false => simp
            · cases hL
    · rename_i n et hu
      rw [hs] at hL
      simp only [Option.bind_some, Option.bind_eq_some_iff] at hL
      obtain ⟨z, hz, hL⟩ := hL
      split at hL
      · rename_i hfit
        have hag : aggT P t = some true := by unfold aggT; rw [hu]; rfl
        unfold partV at hx hy
        rw [hag] at hx hy
        simp only [Option.some.injEq] at hx hy
        subst hx; subst hy
        rw [run_equalIn_array hu hz]
        have key : ∀ (m i : Nat) (L : List (Nat × Nat)) (e : Bool), i + m ≤ n → leaves.leavesA P d et z o m i = some L → alleq xs ys L = some e →
            (arrEq d et z ((AV.conL j xs).toArray.extract o (o + s)) ((AV.conL j ys).toArray.extract o (o + s)) m i).run P w = .ok e w := by
          intro m
          induction m with
          | zero =>
            intro i L e _ hL he
            simp only [leaves.leavesA, Option.some.injEq] at hL; subst hL
            simp only [alleq, Option.some.injEq] at he; subst he
            simp [arrEq]
          | succ m ihm =>
            intro i L e him hL he
            simp only [leaves.leavesA, Option.bind_eq_some_iff, Option.map_eq_some_iff] at hL
            obtain ⟨l1, h1, l2, h2, rfl⟩ := hL
            obtain ⟨e1, e2, g1, g2, rfl⟩ := alleq_append he
            have hfit' : i * z + z ≤ s := by
              have : (i + 1) * z ≤ n * z := Nat.mul_le_mul_right z (by omega)
              rw [Nat.add_mul] at this
              omega
            obtain ⟨hz0, ux, uy, px, py⟩ := leaves_parts (j := j) h1 hz g1
            have r1 := run_part' hz (partV_mk hfit' px hz0) w
            have r2 := run_part' hz (partV_mk hfit' py hz0) w
            have r3 := ih et (o + i * z) z l1 e1 h1 hz g1 ux uy px py
            have r4 := ihm (i + 1) l2 e2 (by omega) h2 g2
            simp only [arrEq, Sem.run_bind, r1, r2, r3, Result.andThen_ok]
            cases e1 with
            | true => simpa using r4
            | false => simp
        exact key n 0 L e (by omega) hL he
      · cases hL
    · cases hL

/-- The same, told so that it can be computed. -/
def lvF (P : Program) (rec : TypeId → Nat → Option (List (Nat × Nat))) (s : Nat) : List Field → Nat → Option (List (Nat × Nat))
  | [], _ => some []
  | f :: fs, o => if f.name = "_" then lvF P rec s fs o else (sizT P f.type).bind fun z => if f.offset + z ≤ s then (rec f.type (o + f.offset)).bind fun l => (lvF P rec s fs o).map (l ++ ·) else none
def lvA (rec : Nat → Option (List (Nat × Nat))) (z o : Nat) : Nat → Nat → Option (List (Nat × Nat))
  | 0, _ => some []
  | n + 1, i => (rec (o + i * z)).bind fun l => (lvA rec z o n (i + 1)).map (l ++ ·)
def leavesS (P : Program) : Nat → TypeId → Nat → Option (List (Nat × Nat))
  | 0, _, _ => none
  | d + 1, t, o =>
    match P.underlying t with
    | some (.int _) => if sizT P t = some 1 then some [(o, 0)] else none
    | some .bool => if sizT P t = some 1 then some [(o, 1)] else none
    | some .string => if sizT P t = some 1 then some [(o, 2)] else none
    | some (.struct fs) => if P.stoodInHeld t then none else (sizT P t).bind fun s => lvF P (leavesS P d) s fs.toList o
    | some (.array n e) => (sizT P t).bind fun s => (sizT P e).bind fun z => if n * z ≤ s then lvA (leavesS P d e) z o n 0 else none
    | _ => none
theorem leavesS_eq (P : Program) : ∀ (d : Nat) (t : TypeId) (o : Nat), leavesS P d t o = leaves P d t o
  | 0, _, _ => by simp only [leavesS, leaves]
  | d + 1, t, o => by
    have hF : ∀ (s : Nat) (fs : List Field) (o : Nat), lvF P (leavesS P d) s fs o = leaves.leavesF P d s fs o := by
      intro s fs
      induction fs with
      | nil => intro o; simp only [lvF, leaves.leavesF]
      | cons f fs ih => intro o; simp only [lvF, leaves.leavesF, ih, leavesS_eq P d]
    have hA : ∀ (e : TypeId) (z o n i : Nat), lvA (leavesS P d e) z o n i = leaves.leavesA P d e z o n i := by
      intro e z o n
      induction n with
      | zero => intro i; simp only [lvA, leaves.leavesA]
      | succ n ih => intro i; simp only [lvA, leaves.leavesA, ih, leavesS_eq P d]
    unfold leavesS leaves
    simp only [hF, hA]

end Go.AX
