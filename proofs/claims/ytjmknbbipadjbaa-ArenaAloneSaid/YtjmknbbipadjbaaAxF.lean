/- AX, part F: what touches memory. -/
import Derived.Test.YtjmknbbipadjbaaAxE
import Derived.Laws.MakeOwn
import Derived.Laws.Slices
set_option linter.unusedSimpArgs false
set_option linter.unusedVariables false
namespace Go.AX
open Go

section
variable {P : Program} {base nt : Nat} {D : Nat → Prop} {j : Inj} {H H' : AH} {w : World} {a : Act} {o : Oper} {v : AV} {E : Env}

theorem conL_cast {j j' : Inj} {v : AV} (h : v.con j' = v.con j) : v.con j' = v.con j := h

/-- A row of cells, just those. -/
theorem new_row (S : Sim base D j H w) {l : List AV} (hl : AV.okL D l) (hs : AV.scL l = true) (t : TypeId) :
    (newRow t (AV.conL j l).toArray).run P w = .ok ⟨w.heap.size, 0, none⟩ { w with heap := w.heap.push (.cells (AV.conL j l).toArray t (0, 0)) } ∧
      Post base D j H w (H.al l) { w with heap := w.heap.push (.cells (AV.conL j l).toArray t (0, 0)) } (j.put H.nx (.new w.heap.size l.length)) := by
  refine ⟨by simp [newRow], ?_⟩
  have := S.alloc hl hs (AV.conL j l).toArray t (0, 0) w.drawn (by simp) (by simp [conL_length]) (.inl rfl) (w' := { w with heap := w.heap.push (.cells (AV.conL j l).toArray t (0, 0)) }) rfl
  simpa [conL_length] using this
theorem dnew_nx {l : List AV} : Dnew D H (H.al l) H.nx := .inr ⟨Nat.le_refl _, by simp [AH.al]⟩
theorem con_nx {k e : Nat} {o : Nat} : (AV.pt H.nx o).con (j.put H.nx (.new k e)) = .pointer (some ⟨k, o, none⟩) := by simp [AV.con, Inj.put, at_new]

theorem snd_alloc (S : Sim base D j H w) {e : TypeId} {z : List AV} (ho : o.op = .alloc e) (hz : zerT P e = some z) : Snd P base D j H w a.eval o (.pt H.nx 0) (H.al z) := by
  obtain ⟨zv, hzv, hc, h1, h2⟩ := run_zero' hz j D w
  obtain ⟨r, p⟩ := new_row (P := P) S h1 h2 e
  refine ⟨_, _, _, ?_, .inl rfl, dnew_nx, p⟩
  rw [con_nx]
  simp [execOp, ho, Instr.alloc, hzv, newVar, hc, r]
theorem snd_box (R : Rel nt D j E a.tmps) (S : Sim base D j H w) {e : TypeId} {x : Operand} {x' : Opd} {l : List AV} (ho : o.op = .box e x) (hx : resO nt x = some x') (hl : (ev E x').cl = some l) : Snd P base D j H w a.eval o (.pt H.nx 0) (H.al l) := by
  obtain ⟨x1, x2⟩ := R.ev hx
  obtain ⟨c1, c2, c3⟩ := cl_con (j := j) hl x2
  obtain ⟨r, p⟩ := new_row (P := P) S c2 c3 e
  refine ⟨_, _, _, ?_, .inl rfl, dnew_nx, p⟩
  rw [con_nx]
  simp [execOp, ho, Instr.box, newVar, x1, c1, r]

theorem zerT_built {t : TypeId} {z : List AV} (h : zerT P t = some z) (j : Inj) (D : Nat → Prop) : ∃ i zv, P.info? t = some i ∧ i.zero = some zv ∧ zv.cells = (AV.conL j z).toArray ∧ AV.okL D z ∧ AV.scL z = true := by
  simp only [zerT, Option.bind_eq_some_iff] at h
  obtain ⟨i, hi, zv, hzv, h⟩ := h
  obtain ⟨h4, h5, h6⟩ := absL_con (j := j) (D := D) h
  exact ⟨i, zv, hi, hzv, by rw [h4], h5, h6⟩
theorem snd_bld (R : Rel nt D j E a.tmps) (S : Sim base D j H w) {t : TypeId} {ps : Array (Nat × Operand)} {pl : Nat → Option (Nat × Nat)} {z l : List AV} {q : List Part} (ho : o.op = .build t ps) (hpl : places P t = some pl) (hz : zerT P t = some z)
    (hq : resParts nt pl ps.toList = some q) (hl : vfill E z q = some l) : Snd P base D j H w a.eval o (.ag l) H := by
  obtain ⟨i, zv, hi, hzv, hc, z1, z2⟩ := zerT_built hz j D
  have hb : P.built t (ps.map fun (i, x) => (i, a.eval x)).toList = some (AV.conL j l).toArray ∧ AV.okL D l ∧ AV.scL l = true := by
    have hm : (ps.map fun (x : Nat × Operand) => (x.1, a.eval x.2)).toList = ps.toList.map fun x => (x.1, a.eval x.2) := by simp
    rw [show (ps.map fun (i, x) => (i, a.eval x)) = (ps.map fun (x : Nat × Operand) => (x.1, a.eval x.2)) from rfl, hm]
    unfold places at hpl
    split at hpl
    · rename_i fs hu
      obtain ⟨pls, hpls, rfl⟩ := Option.map_eq_some_iff.1 hpl
      obtain ⟨f1, f2, f3, _⟩ := vfill_run R (pl := fun i => pls[i]?) (pl' := (pls.toArray[·]?)) (fun i => by simp) ps.toList q z l hq hl z1 z2
      refine ⟨?_, f2, f3⟩
      unfold Program.built
      simp only [hi, hu, hzv, hpls, hc]
      exact f1
    · rename_i n e hu
      obtain ⟨ie, hie, rfl⟩ := Option.map_eq_some_iff.1 hpl
      obtain ⟨f1, f2, f3, _⟩ := vfill_run R (pl := fun i => some (i * ie.size, ie.size)) (pl' := fun i => some (i * ie.size, ie.size)) (fun i => rfl) ps.toList q z l hq hl z1 z2
      refine ⟨?_, f2, f3⟩
      unfold Program.built
      simp only [hi, hu, hzv, hie, hc]
      exact f1
    · cases hpl
  refine Snd.same S ?_ ⟨hb.2.1, hb.2.2⟩
  have r := run_build (P := P) w t (ps.map fun (i, x) => (i, a.eval x)) _ hb.1
  simp [execOp, ho] at r ⊢
  simp [r, AV.con]

theorem flat_get (z : List AV) (hz : 0 < z.length) : ∀ (n i : Nat), i < n * z.length → (List.replicate n z).flatten[i]? = z[i % z.length]?
  | 0, i, h => by simp at h
  | n + 1, i, h => by
    simp only [List.replicate_succ, List.flatten_cons]
    by_cases h1 : i < z.length
    · rw [List.getElem?_append_left h1, Nat.mod_eq_of_lt h1]
    · rw [List.getElem?_append_right (by omega), flat_get z hz n (i - z.length) (by rw [Nat.add_mul] at h; omega)]
      rw [Nat.mod_eq_sub_mod (a := i) (b := z.length) (by omega)]
theorem flat_made (j : Inj) (z : List AV) (n : Nat) : madeCells (AV.conL j z).toArray (n * z.length) = (AV.conL j (List.replicate n z).flatten).toArray := by
  rcases Nat.eq_zero_or_pos z.length with h0 | h0
  · have : z = [] := List.eq_nil_of_length_eq_zero h0
    subst this
    simp [madeCells, AV.conL, conL_eq, Array.range_zero']
  · apply Array.ext_getElem?
    intro i
    simp only [madeCells, List.getElem?_toArray]
    rw [conL_get]
    by_cases hi : i < n * z.length
    · rw [flat_get z h0 n i hi]
      have hm : i % z.length < z.length := Nat.mod_lt _ h0
      simp [Array.getElem?_map, hi, conL_length]
      rw [show z[i % z.length]? = some (z[i % z.length]'hm) by simp [hm]]
      simp only [Option.map_some, Option.some.injEq]
      have : (AV.conL j z)[i % z.length]? = some ((z[i % z.length]'hm).con j) := by rw [conL_get]; simp [hm]
      simp [this]
    · have : (List.replicate n z).flatten[i]? = none := by
        apply List.getElem?_eq_none
        simp; omega
      rw [this]
      simp; omega
theorem okL_flat {n : Nat} {z : List AV} (h : AV.okL D z) : AV.okL D (List.replicate n z).flatten := by
  rw [okL_iff] at *
  intro v hv
  simp only [List.mem_flatten, List.mem_replicate] at hv
  obtain ⟨l, ⟨_, rfl⟩, hv⟩ := hv
  exact h v hv
theorem scL_flat {n : Nat} {z : List AV} (h : AV.scL z = true) : AV.scL (List.replicate n z).flatten = true := by
  rw [AV.scL, List.all_eq_true] at *
  intro v hv
  simp only [List.mem_flatten, List.mem_replicate] at hv
  obtain ⟨l, ⟨_, rfl⟩, hv⟩ := hv
  exact h v hv

theorem snd_bsl (R : Rel nt D j E a.tmps) (S : Sim base D j H w) {t e : TypeId} {n s : Nat} {ps : Array (Nat × Operand)} {z l : List AV} {q : List Part} (ho : o.op = .buildSlice t n ps) (hu : P.underlying t = some (.slice e)) (hs : sizT P e = some s)
    (hns : n * s ≤ 2 ^ 24) (hs0 : 0 < s) (hz : zerT P e = some z) (hzl : z.length = s) (hq : resParts nt (fun i => some (i * s, s)) ps.toList = some q) (hl : vfill E (List.replicate n z).flatten q = some l) :
    Snd P base D j H w a.eval o (.sl H.nx 0 n n) (H.al l) := by
  obtain ⟨zv, hzv, hc, h1, h2⟩ := run_zero' hz j D w
  obtain ⟨f1, f2, f3, f4⟩ := vfill_run R (pl := fun i => some (i * s, s)) (pl' := fun i => some (i * s, s)) (fun i => rfl) ps.toList q (List.replicate n z).flatten l hq hl (okL_flat h1) (scL_flat h2)
  obtain ⟨r, p⟩ := new_row (P := P) S f2 f3 e
  refine ⟨_, _, _, ?_, .inl rfl, dnew_nx, p⟩
  have hm : (ps.map fun (x : Nat × Operand) => (x.1, a.eval x.2)).toList = ps.toList.map fun x => (x.1, a.eval x.2) := by simp
  have hmade := flat_made j z n
  rw [hzl] at hmade
  simp only [madeCells] at hmade
  have hcon : (AV.sl H.nx 0 n n).con (j.put H.nx (.new w.heap.size l.length)) = .slice (some ⟨w.heap.size, 0, none⟩) n n := by simp [AV.con, Inj.put, at_new]
  rw [hcon]
  by_cases h0 : n * s = 0
  · have hn : n = 0 := by
      rcases Nat.mul_eq_zero.1 h0 with h | h <;> omega
    subst hn
    simp only [List.replicate_zero, List.flatten_nil] at f1
    simp only [AV.conL] at f1
    simp only [execOp, ho, Instr.buildSlice, Sem.run_bind, run_underlying hu, Result.andThen_ok, run_sizeOf' hs, h0]
    have hr0 : (Array.range 0).map (fun (x : Nat) => (default : Value)) = #[] := by simp [Array.range_zero']
    simp [hr0, hm, f1, r]
  · simp only [execOp, ho, Instr.buildSlice, Sem.run_bind, run_underlying hu, Result.andThen_ok, run_sizeOf' hs]
    rw [if_neg (by omega), if_neg h0]
    simp only [Sem.run_bind, hzv, Result.andThen_ok, Sem.run_pure, hc]
    rw [show (Array.range (n * s)).map (fun (x : Nat) => (AV.conL j z).toArray[x % (AV.conL j z).toArray.size]!) = (AV.conL j (List.replicate n z).flatten).toArray from hmade]
    simp [hm, f1, r]

theorem snd_mks (R : Rel nt D j E a.tmps) (S : Sim base D j H w) {t e : TypeId} {i : TypeInfo} {z : List AV} {l c : Operand} {l' c' : Opd} (ho : o.op = .makeSlice t l c) (hu : P.underlying t = some (.slice e)) (hi : P.info? e = some i) (hz : zerT P e = some z) (hzl : z.length = i.size)
    (hl : resO nt l = some l') (hc : resO nt c = some c') (h : vmks i.bytes z H (ev E l') (ev E c') = some (v, H')) : Snd P base D j H w a.eval o v H' := by
  obtain ⟨l1, l2⟩ := R.ev hl
  obtain ⟨c1, c2⟩ := R.ev hc
  obtain ⟨i', zv, hi', hzv, hzc, z1, z2⟩ := zerT_built hz j D
  rw [hi] at hi'
  obtain rfl := Option.some.inj hi'
  generalize ev E l' = u at *
  generalize ev E c' = q at *
  cases u <;> cases q <;> simp only [vmks, reduceCtorEq] at h
  rename_i kl lv kc cv
  split at h
  · rename_i hb
    simp only [Option.some.injEq, Prod.mk.injEq] at h
    obtain ⟨rfl, rfl⟩ := h
    have r := run_make (P := P) w t e i zv hu hi hzv kl kc lv cv hb.1 hb.2.1 (by omega) hb.2.2.1
    have hmade := flat_made j z cv.toNat
    rw [hzl] at hmade
    rw [hzc, hmade] at r
    have p := S.alloc (okL_flat (n := cv.toNat) z1) (scL_flat (n := cv.toNat) z2) (AV.conL j (List.replicate cv.toNat z).flatten).toArray e (0, 0) w.drawn (by simp) (by simp [conL_length]) (.inl rfl)
      (w' := w.alloc (.cells (AV.conL j (List.replicate cv.toNat z).flatten).toArray e)) rfl
    refine ⟨_, _, _, ?_, .inl rfl, dnew_nx, p⟩
    simp only [execOp, ho, l1, c1, AV.con, Sem.run_bind, r, Result.andThen_ok, Sem.run_pure]
    simp [Inj.put, at_new]
  · cases h

/-! ### Loads and stores -/
theorem snd_ld (R : Rel nt D j E a.tmps) (S : Sim base D j H w) {t : TypeId} {n : Nat} {x : Operand} {x' : Opd} (ho : o.op = .load t x) (ha : aggT P t = some true) (hs : sizT P t = some n) (hx : resO nt x = some x') (h : vld n H (ev E x') = some v) :
    Snd P base D j H w a.eval o v H := by
  obtain ⟨x1, x2⟩ := R.ev hx
  generalize ev E x' = u at *
  cases u <;> simp only [vld, reduceCtorEq] at h
  rename_i b p
  obtain ⟨l, hl, rfl⟩ := Option.map_eq_some_iff.1 h
  obtain ⟨r1, r2, r3, r4⟩ := S.loadCells (P := P) x2 hl
  refine Snd.same S ?_ ⟨r2, r3⟩
  simp [execOp, ho, Instr.loadAt, Instr.sureAddr, x1, AV.con, loadVar, run_isAgg' ha, run_sizeOf' hs, r1]
theorem snd_ld1 (R : Rel nt D j E a.tmps) (S : Sim base D j H w) {t : TypeId} {x : Operand} {x' : Opd} (ho : o.op = .load t x) (ha : aggT P t = some false) (hx : resO nt x = some x') (h : vld1 H (ev E x') = some v) :
    Snd P base D j H w a.eval o v H := by
  obtain ⟨x1, x2⟩ := R.ev hx
  generalize ev E x' = u at *
  cases u <;> simp only [vld1, reduceCtorEq] at h
  rename_i b p
  obtain ⟨r1, r2, r3⟩ := S.cell x2 h
  refine Snd.same S ?_ r2
  simp [execOp, ho, Instr.loadAt, Instr.sureAddr, x1, AV.con, loadVar, run_isAgg' ha, r1]
theorem snd_sto (R : Rel nt D j E a.tmps) (S : Sim base D j H w) {t : TypeId} {n : Nat} {p x : Operand} {p' x' : Opd} (ho : o.op = .store t p x) (hs : sizT P t = some n) (hp : resO nt p = some p') (hx : resO nt x = some x') (h : vsto n H (ev E p') (ev E x') = some (v, H')) :
    Snd P base D j H w a.eval o v H' := by
  obtain ⟨x1, x2⟩ := R.ev hx
  obtain ⟨p1, p2⟩ := R.ev hp
  generalize ev E x' = u at *
  generalize ev E p' = q at *
  cases q <;> simp only [vsto, reduceCtorEq, Option.bind_eq_some_iff] at h
  rename_i b off
  obtain ⟨m, hm, h⟩ := h
  split at h
  · rename_i hlen
    obtain ⟨H1, hw, h⟩ := Option.map_eq_some_iff.1 h
    simp only [Prod.mk.injEq] at h
    obtain ⟨rfl, rfl⟩ := h
    obtain ⟨c1, c2, c3⟩ := cl_con (j := j) hm x2
    obtain ⟨w', r, p⟩ := S.store (P := P) (o := off) p2 hw c2 c3
    refine ⟨.skip, w', j, ?_, .inr ⟨rfl, rfl⟩, by simp [AV.ok, AV.okL], p⟩
    simp [execOp, ho, Instr.storeAt, Instr.sureAddr, p1, AV.con, storeVar, x1, c1, run_sizeOf' hs, conL_length, hlen, r]
  · cases h
theorem snd_nilc (R : Rel nt D j E a.tmps) (S : Sim base D j H w) {x : Operand} {x' : Opd} (ho : o.op = .nilCheck x) (hx : resO nt x = some x') (h : vnilc (ev E x') = some v) : Snd P base D j H w a.eval o v H := by
  obtain ⟨x1, x2⟩ := R.ev hx
  generalize ev E x' = u at *
  unfold vnilc at h
  split at h
  · simp only [Option.some.injEq] at h; subst h
    refine Snd.same S ?_ x2
    simp [execOp, ho, x1, AV.con]
  · simp only [Option.some.injEq] at h; subst h
    refine Snd.same S ?_ x2
    simp [execOp, ho, x1, AV.con]
  · cases h
theorem snd_fa (R : Rel nt D j E a.tmps) (S : Sim base D j H w) {t : TypeId} {i n : Nat} {f : Field} {x : Operand} {x' : Opd} (ho : o.op = .fieldAddr t x i) (hf : fieldT P t i = some f) (hs : sizT P f.type = some n) (hn : n ≠ 0)
    (hx : resO nt x = some x') (h : vfa f.offset (ev E x') = some v) : Snd P base D j H w a.eval o v H := by
  obtain ⟨x1, x2⟩ := R.ev hx
  generalize ev E x' = u at *
  cases u <;> simp only [vfa, Option.some.injEq, reduceCtorEq] at h
  subst h
  refine Snd.same S ?_ x2
  unfold fieldT at hf
  split at hf
  · rename_i fs hu
    simp [execOp, ho, Instr.fieldAt, run_underlying hu, x1, AV.con, hf, Instr.sureAddr, fieldPlace, run_sizeOf' hs, hn, at_add]
  · cases hf
theorem snd_iaa (R : Rel nt D j E a.tmps) (S : Sim base D j H w) {t e : TypeId} {n s : Nat} {x i : Operand} {x' i' : Opd} (ho : o.op = .indexAddr t x i) (hu : P.underlying t = some (.array n e)) (hs : sizT P e = some s)
    (hx : resO nt x = some x') (hi : resO nt i = some i') (h : viaa n s (ev E x') (ev E i') = some v) : Snd P base D j H w a.eval o v H := by
  obtain ⟨x1, x2⟩ := R.ev hx
  obtain ⟨i1, i2⟩ := R.ev hi
  generalize ev E x' = u at *
  generalize ev E i' = q at *
  cases u <;> cases q <;> simp only [viaa, reduceCtorEq] at h
  split at h
  · rename_i hb
    simp only [Option.some.injEq] at h; subst h
    refine Snd.same S ?_ x2
    simp [execOp, ho, Instr.indexAt, run_underlying hu, x1, i1, AV.con, asIntOf, hb.1, hb.2, run_sizeOf' hs, Instr.sureAddr, at_add]
  · cases h

/-- A slice whose room isn't known has as much as it holds. -/
theorem room (S : Sim base D j H w) {b o n es : Nat} (hb : D b) (hes : 0 < es) (hown : (H.g b).own = true) (h : o + n * es ≤ (H.g b).cells.length) : n ≤ ((j b).e - o) / es ∧ (0 < n → ((j b).e - o) / es ≠ 0) := by
  have h1 : n ≤ ((j b).e - o) / es := by
    rw [Nat.le_div_iff_mul_le hes]
    cases hg : H.g b with
    | no => rw [hg] at hown; simp [Blk.own] at hown
    | ro l => rw [hg] at hown; simp [Blk.own] at hown
    | rw l =>
      obtain ⟨⟨cs, t, fr, g1, g2, g5, g6, g7⟩, _⟩ := S.rw b l hb hg
      rw [hg] at h
      simp only [Blk.cells] at h
      rw [conL_length] at g6
      omega
    | mp l =>
      rw [hg] at h
      simp only [Blk.cells, List.length_nil] at h
      omega
  exact ⟨h1, fun h0 => by omega⟩
theorem own_rw {k : Blk} (h : k.own = true) (hl : 0 < k.cells.length) : k.isRw = true := by
  cases k with
  | rw l => rfl
  | mp l => simp [Blk.cells] at hl
  | no => simp [Blk.own] at h
  | ro l => simp [Blk.own] at h
theorem snd_ia (R : Rel nt D j E a.tmps) (S : Sim base D j H w) {t e : TypeId} {s : Nat} {x i : Operand} {x' i' : Opd} (ho : o.op = .indexAddr t x i) (hu : P.underlying t = some (.slice e)) (hs : sizT P e = some s)
    (hx : resO nt x = some x') (hi : resO nt i = some i') (h : via s H (ev E x') (ev E i') = some v) : Snd P base D j H w a.eval o v H := by
  obtain ⟨x1, x2⟩ := R.ev hx
  obtain ⟨i1, i2⟩ := R.ev hi
  generalize ev E x' = u at *
  generalize ev E i' = q at *
  cases u <;> cases q <;> simp only [via, reduceCtorEq] at h
  · split at h
    · rename_i hb
      simp only [Option.some.injEq] at h; subst h
      refine Snd.same S ?_ x2
      simp [execOp, ho, Instr.indexAt, run_underlying hu, x1, i1, AV.con, asIntOf, hb.1, hb.2, run_sizeOf' hs, at_add]
    · cases h
  · split at h
    · rename_i bb pp qq nn ee kk ii hb
      obtain ⟨rfl, hb0, hb1, hb2, hb3, hb4⟩ := hb
      have hpos : 0 < nn * ee := Nat.mul_pos (by omega) hb0
      simp only [Option.some.injEq] at h; subst h
      obtain ⟨_, hcap⟩ := room S x2 hb0 (isRw_own hb2) hb1
      refine Snd.same S ?_ x2
      have hc := hcap (by omega)
      simp only [AV.con, if_neg hc] at x1
      rw [← S.own_at x2 hb2] at x1
      simp [execOp, ho, Instr.indexAt, run_underlying hu, x1, i1, AV.con, asIntOf, hb3, hb4, run_sizeOf' hs, at_add]
    · cases h
end

end Go.AX
