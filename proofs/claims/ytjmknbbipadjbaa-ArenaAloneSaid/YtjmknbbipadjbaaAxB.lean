/- AX, part B: memory: a new block, a load, a store. -/
import Derived.Test.YtjmknbbipadjbaaAxA
set_option linter.unusedSimpArgs false
set_option linter.unusedVariables false
namespace Go.AX
open Go

theorem con_one {j : Inj} : ∀ {v : AV}, v.sc = true → (v.con j).oneCell' = true
  | .ag _, h => by simp [AV.sc] at h
  | .tu _, h => by simp [AV.sc] at h
  | .bo _, _ | .it _ _, _ | .fl _ _, _ | .st _, _ | .np, _ | .pt _ _, _ | .sn, _ | .sl _ _ _ _, _ | .sg _ _ _ _ _, _ | .fn _ _ _, _ | .nf, _ | .fc _ _, _ | .ni, _ | .mn, _ | .mp _, _ => rfl
theorem conL_length {j : Inj} (l : List AV) : (AV.conL j l).length = l.length := by rw [conL_eq]; simp
theorem conL_get {j : Inj} (l : List AV) (i : Nat) : (AV.conL j l)[i]? = (l[i]?).map (AV.con j) := by rw [conL_eq]; simp
theorem conL_append {j : Inj} (l m : List AV) : AV.conL j (l ++ m) = AV.conL j l ++ AV.conL j m := by simp [conL_eq]
theorem conL_one {j : Inj} {l : List AV} (h : AV.scL l = true) : ∀ v ∈ AV.conL j l, v.oneCell' = true := by
  intro v hv
  rw [conL_eq] at hv
  obtain ⟨a, ha, rfl⟩ := List.mem_map.1 hv
  exact con_one (List.all_eq_true.1 h a ha)

/-- A value's cells. -/
def AV.cl : AV → Option (List AV)
  | .ag l => some l
  | .tu _ => none
  | v => some [v]
theorem cl_con {j : Inj} {D : Nat → Prop} : ∀ {v : AV} {l : List AV}, v.cl = some l → v.ok D → (v.con j).cells = (AV.conL j l).toArray ∧ AV.okL D l ∧ AV.scL l = true
  | .ag l, l', h, hv => by
    simp only [AV.cl, Option.some.injEq] at h
    subst h
    exact ⟨by simp [AV.con, Value.cells], hv.1, hv.2⟩
  | .tu _, _, h, _ => by simp [AV.cl] at h
  | .bo _, _, h, hv | .it _ _, _, h, hv | .fl _ _, _, h, hv | .st _, _, h, hv | .np, _, h, hv | .pt _ _, _, h, hv | .sn, _, h, hv | .sl _ _ _ _, _, h, hv | .sg _ _ _ _ _, _, h, hv | .fn _ _ _, _, h, hv
  | .nf, _, h, hv | .fc _ _, _, h, hv | .ni, _, h, hv | .mn, _, h, hv | .mp _, _, h, hv => by
    simp only [AV.cl, Option.some.injEq] at h
    subst h
    exact ⟨by simp [AV.con, Value.cells, AV.conL], ⟨hv, by simp only [AV.okL]⟩, rfl⟩

def Blk.isRw : Blk → Bool
  | .rw _ => true
  | _ => false

theorem isRw_own {k : Blk} (h : k.isRw = true) : k.own = true := by cases k <;> simp [Blk.isRw] at h <;> rfl

/-! ### A new block -/
def AH.al (H : AH) (l : List AV) : AH := ⟨H.nx + 1, fun b => if b = H.nx then .rw l else H.g b⟩
def Inj.put (j : Inj) (b : Nat) (c : CB) : Inj := fun x => if x = b then c else j x

theorem Sim.row_lt {base : Nat} {D : Nat → Prop} {j : Inj} {H : AH} {w : World} (S : Sim base D j H w) {b : Nat} (hb : D b) (h : H.g b ≠ .no) : (j b).k < w.heap.size := by
  cases hg : H.g b with
  | no => exact absurd hg h
  | ro l =>
    obtain ⟨⟨cs, t, fr, h1, _⟩, _⟩ := S.ro b l hb hg
    exact (Array.getElem?_eq_some_iff.1 h1).1
  | rw l =>
    obtain ⟨⟨cs, t, fr, h1, _⟩, _⟩ := S.rw b l hb hg
    exact (Array.getElem?_eq_some_iff.1 h1).1
  | mp es =>
    obtain ⟨⟨en, c, h1, _⟩, _⟩ := S.mp b es hb hg
    exact (Array.getElem?_eq_some_iff.1 h1).1

theorem okL_Dnew {D : Nat → Prop} {H H' : AH} {l : List AV} (h : AV.okL D l) : AV.okL (Dnew D H H') l := okL_mono (fun _ => .inl) l h
theorem ok_Dnew {D : Nat → Prop} {H H' : AH} {v : AV} (h : v.ok D) : v.ok (Dnew D H H') := ok_mono (fun _ => .inl) v h

/-- What was of D stands for what it stood for. -/
theorem con_put {D : Nat → Prop} {j : Inj} {H : AH} (hlt : ∀ b, D b → b < H.nx) (c : CB) {v : AV} (h : v.ok D) : v.con (j.put H.nx c) = v.con j :=
  con_congr (fun b hb => by have := hlt b hb; simp only [Inj.put]; rw [if_neg (by omega)]) v h
theorem conL_put {D : Nat → Prop} {j : Inj} {H : AH} (hlt : ∀ b, D b → b < H.nx) (c : CB) {l : List AV} (h : AV.okL D l) : AV.conL (j.put H.nx c) l = AV.conL j l :=
  conL_congr (fun b hb => by have := hlt b hb; simp only [Inj.put]; rw [if_neg (by omega)]) l h

theorem Evo.al (H : AH) (l : List AV) : Evo H (H.al l) := by
  refine ⟨Nat.le_succ _, ?_, ?_, ?_⟩
  · intro b hb h
    simp only [AH.al]; rw [if_neg (by omega)]; exact h
  · intro b l hb h
    simp only [AH.al]; rw [if_neg (by omega)]; exact h
  · intro b hb h
    simp only [AH.al]; rw [if_neg (by omega)]; exact .inr h

/-- A new block in the world, and the abstract one. The world's may have more cells than are told, and its own frozen places behind them. -/
theorem Sim.alloc {base : Nat} {D : Nat → Prop} {j : Inj} {H : AH} {w : World} (S : Sim base D j H w) {l : List AV} (hl : AV.okL D l) (hs : AV.scL l = true)
    (cs : Array Value) (t : TypeId) (fr : Nat × Nat) (n : Nat) (hcs : ∀ (i : Nat) v, (AV.conL j l)[i]? = some v → cs[i]? = some v) (hsz : l.length ≤ cs.size) (hfr : fr.1 = fr.2 ∨ cs.size ≤ fr.1)
    {w' : World} (hw : w' = { w with heap := w.heap.push (.cells cs t fr), drawn := n }) :
    Post base D j H w (H.al l) w' (j.put H.nx (.new w.heap.size cs.size)) := by
  subst hw
  have hold : ∀ k, k < w.heap.size → (w.heap.push (Obj.cells cs t fr))[k]? = w.heap[k]? := fun k hk => by
    rw [Array.getElem?_push, if_neg (by omega)]
  have hD : ∀ b, Dnew D H (H.al l) b → b = H.nx ∨ (D b ∧ b < H.nx) := by
    rintro b (hb | ⟨h1, h2⟩)
    · exact .inr ⟨hb, S.lt b hb⟩
    · simp only [AH.al] at h2; exact .inl (by omega)
  refine ⟨Evo.al H l, fun b hb => ?_, ⟨?_, ?_, ?_, ?_, ?_, ?_, ?_⟩, ⟨rfl, rfl, rfl, by simp, fun k hk _ => hold k hk⟩, ?_⟩
  · have := S.lt b hb; simp only [Inj.put]; rw [if_neg (by omega)]
  · intro b hb
    rcases hD b hb with rfl | ⟨_, h⟩ <;> simp only [AH.al] <;> omega
  · intro b hb
    simp only [AH.al] at hb ⊢
    rw [if_neg (by omega)]
    exact S.wf b (by omega)
  · have := S.size; simp; omega
  · intro b l' hb hg
    rcases hD b hb with rfl | ⟨hb', h⟩
    · simp [AH.al] at hg
    · simp only [AH.al] at hg
      rw [if_neg (by omega)] at hg
      obtain ⟨⟨cs', t', fr', h1, h2⟩, h3, h4⟩ := S.ro b l' hb' hg
      rw [conL_put S.lt _ h3]
      have hj : (j.put H.nx (.new w.heap.size cs.size)) b = j b := by simp only [Inj.put]; rw [if_neg (by omega)]
      rw [hj]
      refine ⟨⟨cs', t', fr', ?_, h2⟩, okL_Dnew h3, h4⟩
      rw [hold _ (Array.getElem?_eq_some_iff.1 h1).1]; exact h1
  · intro b l' hb hg
    rcases hD b hb with rfl | ⟨hb', h⟩
    · simp only [AH.al, if_true, Blk.rw.injEq] at hg
      subst hg
      rw [conL_put S.lt _ hl]
      refine ⟨⟨cs, t, fr, ?_, hcs, ?_, ?_, hfr⟩, okL_Dnew hl, hs, ?_⟩
      · simp [Inj.put]
      · simp [Inj.put]
      · simp [Inj.put, conL_length]; exact hsz
      · simp [Inj.put]; exact S.size
    · simp only [AH.al] at hg
      rw [if_neg (by omega)] at hg
      obtain ⟨⟨cs', t', fr', h1, h2, h5, h6, h7⟩, h3, h4, h8⟩ := S.rw b l' hb' hg
      rw [conL_put S.lt _ h3]
      have hj : (j.put H.nx (.new w.heap.size cs.size)) b = j b := by simp only [Inj.put]; rw [if_neg (by omega)]
      rw [hj]
      refine ⟨⟨cs', t', fr', ?_, h2, h5, h6, h7⟩, okL_Dnew h3, h4, h8⟩
      rw [hold _ (Array.getElem?_eq_some_iff.1 h1).1]; exact h1
  · intro b l' hb hg
    rcases hD b hb with rfl | ⟨hb', h⟩
    · simp [AH.al] at hg
    · simp only [AH.al] at hg
      rw [if_neg (by omega)] at hg
      obtain ⟨⟨en, c, h1, h2⟩, h3, h4⟩ := S.mp b l' hb' hg
      have hj : (j.put H.nx (.new w.heap.size cs.size)) b = j b := by simp only [Inj.put]; rw [if_neg (by omega)]
      rw [hj, conM_congr (j := j) (fun x hx => by have := S.lt x hx; simp only [Inj.put]; rw [if_neg (by omega)]) h3]
      exact ⟨⟨en, c, by rw [hold _ (Array.getElem?_eq_some_iff.1 h1).1]; exact h1, h2⟩, okM_mono (fun _ => .inl) h3, h4⟩
  · intro b b' hb hb' hg hg' hk
    rcases hD b hb with rfl | ⟨hb1, h⟩
    · rcases hD b' hb' with rfl | ⟨hb2, h'⟩
      · rfl
      · exfalso
        simp only [AH.al] at hg'
        rw [if_neg (by omega)] at hg'
        have h3 := S.row_lt hb2 hg'
        simp only [Inj.put, if_true] at hk
        rw [if_neg (by omega)] at hk
        omega
    · simp only [AH.al] at hg
      rw [if_neg (by omega)] at hg
      rcases hD b' hb' with rfl | ⟨hb2, h'⟩
      · exfalso
        have h3 := S.row_lt hb1 (fun e => by rw [e] at hg; simp [Blk.own] at hg)
        simp only [Inj.put, if_true] at hk
        rw [if_neg (by omega)] at hk
        omega
      · simp only [AH.al] at hg'
        rw [if_neg (by omega)] at hg'
        simp only [Inj.put] at hk
        rw [if_neg (by omega), if_neg (by omega)] at hk
        exact S.inj b b' hb1 hb2 hg hg' hk
  · intro b h1 h2 _
    simp only [AH.al] at h2
    obtain rfl : b = H.nx := by omega
    exact .inl (by simp [Inj.put])

/-! ### Loads -/
/-- So many cells of a block, from one on. -/
def AH.rd (H : AH) (b o n : Nat) : Option (List AV) := if o + n ≤ (H.g b).cells.length then some (((H.g b).cells.drop o).take n) else none

theorem Sim.cell {base : Nat} {D : Nat → Prop} {j : Inj} {H : AH} {w : World} (S : Sim base D j H w) {b : Nat} (hb : D b) {i : Nat} {v : AV} (h : (H.g b).cells[i]? = some v) :
    w.cell? ((j b).at i) = some (v.con j) ∧ v.ok D ∧ v.sc = true := by
  have hrow : RowAt w (j b) (AV.conL j (H.g b).cells) ∧ AV.okL D (H.g b).cells ∧ AV.scL (H.g b).cells = true := by
    cases hg : H.g b with
    | no => rw [hg] at h; simp [Blk.cells] at h
    | ro l => exact S.ro b l hb hg
    | rw l => obtain ⟨h1, h2, h3, _, h5, h6⟩ := S.rw b l hb hg; exact ⟨h1.row h5 h6, h2, h3⟩
    | mp l => rw [hg] at h; simp [Blk.cells] at h
  obtain ⟨⟨cs, t, fr, h1, h2⟩, h3, h4⟩ := hrow
  have hm := List.mem_of_getElem? h
  refine ⟨?_, okL_iff.1 h3 v hm, List.all_eq_true.1 h4 v hm⟩
  obtain ⟨h5, h6⟩ := h2 i _ (by rw [conL_get, h]; rfl)
  have ha : (j b).at i = ⟨(j b).k, (j b).d + i, none⟩ := by
    unfold CB.at Addr.add
    by_cases h0 : i = 0 <;> simp [h0, h5]
  rw [ha]
  simp only [World.cell?, h1]
  simp only [Option.isSome_none, Bool.false_eq_true, if_false]
  exact h6

theorem addr_add (b o i : Nat) : (⟨b, o, none⟩ : Addr).add i = ⟨b, o + i, none⟩ := by unfold Addr.add; split <;> simp_all

theorem Sim.loadCells {P : Program} {base : Nat} {D : Nat → Prop} {j : Inj} {H : AH} {w : World} (S : Sim base D j H w) {b o n : Nat} (hb : D b) {l : List AV} (h : H.rd b o n = some l) :
    (loadCells ((j b).at o) n).run P w = .ok (AV.conL j l).toArray w ∧ AV.okL D l ∧ AV.scL l = true ∧ l.length = n := by
  unfold AH.rd at h
  split at h
  · rename_i hle
    simp only [Option.some.injEq] at h
    subst h
    have hlen : (((H.g b).cells.drop o).take n).length = n := by simp; omega
    have hget : ∀ i v, (((H.g b).cells.drop o).take n)[i]? = some v → (H.g b).cells[o + i]? = some v := by
      intro i v hi
      rw [List.getElem?_take] at hi
      split at hi
      · rw [List.getElem?_drop] at hi; exact hi
      · simp at hi
    refine ⟨?_, ?_, ?_, hlen⟩
    · have := run_loadCells_list (P := P) w ((j b).at o) (AV.conL j (((H.g b).cells.drop o).take n)) (fun i v hi => by
        rw [conL_get] at hi
        obtain ⟨a, ha, rfl⟩ := Option.map_eq_some_iff.1 hi
        rw [at_add]
        exact (S.cell hb (hget i a ha)).1)
      rw [conL_length, hlen] at this
      exact this
    · rw [okL_iff]
      intro v hv
      obtain ⟨i, hi⟩ := List.mem_iff_getElem?.1 hv
      exact (S.cell hb (hget i v hi)).2.1
    · rw [AV.scL, List.all_eq_true]
      intro v hv
      obtain ⟨i, hi⟩ := List.mem_iff_getElem?.1 hv
      exact (S.cell hb (hget i v hi)).2.2
  · simp at h

/-! ### Stores -/
def splice (l : List AV) (o : Nat) (m : List AV) : List AV := l.take o ++ (m ++ l.drop (o + m.length))
theorem splice_length {l : List AV} {o : Nat} {m : List AV} (h : o + m.length ≤ l.length) : (splice l o m).length = l.length := by
  simp [splice]; omega
def AH.up (H : AH) (b : Nat) (l : List AV) : AH := ⟨H.nx, fun x => if x = b then .rw l else H.g x⟩
/-- A store: the block is one of the call's own. -/
def AH.wr (H : AH) (b o : Nat) (m : List AV) : Option AH :=
  match H.g b with
  | .rw l => if o + m.length ≤ l.length then some (H.up b (splice l o m)) else none
  | _ => none

theorem Evo.up {H : AH} {b : Nat} {l l' : List AV} (h : H.g b = .rw l) : Evo H (H.up b l') := by
  refine ⟨Nat.le_refl _, ?_, ?_, ?_⟩
  · intro x hx hno
    simp only [AH.up]; rw [if_neg (fun e => by subst e; rw [h] at hno; cases hno)]; exact hno
  · intro x lx hx hro
    simp only [AH.up]; rw [if_neg (fun e => by subst e; rw [h] at hro; cases hro)]; exact hro
  · intro x hx hrw
    simp only [AH.up]
    split
    · exact .inr rfl
    · exact .inr hrw

/-- A block's cells are written over in the world, and in the abstract heap. -/
theorem Sim.up {base : Nat} {D : Nat → Prop} {j : Inj} {H : AH} {w : World} (S : Sim base D j H w) {b : Nat} (hb : D b) {l l' : List AV} (hg : H.g b = .rw l) (hl : AV.okL D l') (hs : AV.scL l' = true)
    {w' : World} {t : TypeId} {fr : Nat × Nat} {cs cs' : Array Value} (hw0 : w.heap[(j b).k]? = some (.cells cs t fr)) (hw : w'.heap[(j b).k]? = some (.cells cs' t fr)) (hsz : cs'.size = cs.size) (hlen : l'.length ≤ cs.size)
    (hcs : ∀ (i : Nat) v, (AV.conL j l')[i]? = some v → cs'[i]? = some v)
    (hother : ∀ k, k ≠ (j b).k → w'.heap[k]? = w.heap[k]?) (hsize : w'.heap.size = w.heap.size) (hos : w'.os = w.os) (htape : w'.tape = w.tape) (hout : w'.output = w.output) :
    Post base D j H w (H.up b l') w' j := by
  have hold : ∀ x, D x → x ≠ b → H.g x ≠ .no → (j x).k ≠ (j b).k := fun x hx hne hn e => hne (S.inj b x hb hx (by rw [hg]; rfl) hn e)
  obtain ⟨⟨cs0, t0, fr0, g1, g2, g5, g6, g7⟩, g3, g4, g8⟩ := S.rw b l hb hg
  rw [hw0] at g1
  simp only [Option.some.injEq, Obj.cells.injEq] at g1
  obtain ⟨rfl, rfl, rfl⟩ := g1
  refine ⟨Evo.up hg, fun _ _ => rfl, Sim.iffD (D := D) ⟨S.lt, fun x hx => by simp only [AH.up] at hx ⊢; rw [if_neg (fun e => by have := S.lt b hb; omega)]; exact S.wf x hx, by rw [hsize]; exact S.size, ?_, ?_, ?_, ?_⟩ (fun x => Dnew.self), ⟨hos, htape, hout, by omega, ?_⟩, fun x h1 h2 _ => by simp only [AH.up] at h2; omega⟩
  · intro x lx hx hro
    simp only [AH.up] at hro
    split at hro
    · cases hro
    · rename_i hne
      obtain ⟨⟨cs1, t1, fr1, h1, h2⟩, h3, h4⟩ := S.ro x lx hx hro
      exact ⟨⟨cs1, t1, fr1, by rw [hother _ (hold x hx hne (by rw [hro]; simp))]; exact h1, h2⟩, h3, h4⟩
  · intro x lx hx hrw
    simp only [AH.up] at hrw
    split at hrw
    · rename_i he
      subst he
      simp only [Blk.rw.injEq] at hrw
      subst hrw
      exact ⟨⟨cs', _, _, hw, hcs, by omega, by rw [conL_length]; omega, by rw [hsz]; exact g7⟩, hl, hs, g8⟩
    · rename_i hne
      obtain ⟨⟨cs1, t1, fr1, h1, h2, h5, h6, h7⟩, h3, h4, h8⟩ := S.rw x lx hx hrw
      exact ⟨⟨cs1, t1, fr1, by rw [hother _ (hold x hx hne (by rw [hrw]; simp))]; exact h1, h2, h5, h6, h7⟩, h3, h4, h8⟩
  · intro x es hx hmp
    simp only [AH.up] at hmp
    split at hmp
    · cases hmp
    · rename_i hne
      obtain ⟨⟨en, c, h1, h2⟩, h3, h4⟩ := S.mp x es hx hmp
      exact ⟨⟨en, c, by rw [hother _ (hold x hx hne (by rw [hmp]; simp))]; exact h1, h2⟩, h3, h4⟩
  · intro x x' hx hx' hrw hno hk
    have hx1 : (H.g x).own = true := by
      simp only [AH.up] at hrw
      split at hrw
      · rename_i he; rw [he, hg]; rfl
      · exact hrw
    have hx2 : H.g x' ≠ .no := by
      simp only [AH.up] at hno
      split at hno
      · rename_i he; rw [he, hg]; simp
      · exact hno
    exact S.inj x x' hx hx' hx1 hx2 hk
  · intro k hk hn
    exact hother k (fun e => hn b hb (by rw [hg]; rfl) e.symm)

theorem setCells_heap_other (b k : Nat) (h : k ≠ b) : ∀ (vs : List Value) (o : Nat) (w : World), (w.setCells b o vs).heap[k]? = w.heap[k]?
  | [], _, _ => rfl
  | v :: r, o, w => by
    simp only [World.setCells]
    rw [setCells_heap_other b k h r]
    exact heap_setCell_other w _ _ v (by simpa using h)
theorem setCells_size (b : Nat) : ∀ (vs : List Value) (o : Nat) (w : World), (w.setCells b o vs).heap.size = w.heap.size
  | [], _, _ => rfl
  | v :: r, o, w => by simp only [World.setCells]; rw [setCells_size b r]; simp
theorem setCells_rest (b : Nat) : ∀ (vs : List Value) (o : Nat) (w : World), (w.setCells b o vs).os = w.os ∧ (w.setCells b o vs).tape = w.tape ∧ (w.setCells b o vs).output = w.output
  | [], _, _ => ⟨rfl, rfl, rfl⟩
  | v :: r, o, w => by
    simp only [World.setCells]
    obtain ⟨h1, h2, h3⟩ := setCells_rest b r (o + 1) (w.setCell ⟨b, o, none⟩ v)
    exact ⟨h1, h2, h3⟩
def writeAll (cs : Array Value) (o : Nat) : List Value → Array Value
  | [] => cs
  | v :: r => writeAll (cs.setIfInBounds o v) (o + 1) r
theorem writeAll_size (cs : Array Value) : ∀ (vs : List Value) (o : Nat), (writeAll cs o vs).size = cs.size := by
  intro vs
  induction vs generalizing cs with
  | nil => intro o; rfl
  | cons v r ih => intro o; simp [writeAll, ih]
theorem writeAll_get : ∀ (vs : List Value) (cs : Array Value) (o i : Nat), o + vs.length ≤ cs.size → (writeAll cs o vs)[i]? = if o ≤ i ∧ i < o + vs.length then vs[i - o]? else cs[i]?
  | [], cs, o, i, _ => by
    simp only [writeAll, List.length_nil, Nat.add_zero]
    rw [if_neg (by omega)]
  | v :: r, cs, o, i, h => by
    simp only [writeAll]
    rw [writeAll_get r _ (o + 1) i (by simp at h ⊢; omega)]
    simp only [List.length_cons] at h ⊢
    by_cases h1 : o + 1 ≤ i ∧ i < o + 1 + r.length
    · rw [if_pos h1, if_pos (by omega)]
      have : i - o = (i - (o + 1)) + 1 := by omega
      rw [this]; simp
    · rw [if_neg h1]
      by_cases h2 : i = o
      · subst h2
        rw [if_pos (by omega)]
        simp [show i < cs.size by omega]
      · rw [if_neg (by omega), Array.getElem?_setIfInBounds_ne (by omega)]
theorem setCells_heap (b : Nat) (t : TypeId) (fr : Nat × Nat) : ∀ (vs : List Value) (o : Nat) (w : World) (cs : Array Value), w.heap[b]? = some (.cells cs t fr) →
    (w.setCells b o vs).heap[b]? = some (.cells (writeAll cs o vs) t fr)
  | [], _, _, cs, h => h
  | v :: r, o, w, cs, h => by
    simp only [World.setCells, writeAll]
    refine setCells_heap b t fr r (o + 1) _ _ ?_
    simp only [World.setCell, Array.getElem?_modify, if_true, h, Option.map_some]
    simp

theorem Sim.store_k {P : Program} {base : Nat} {D : Nat → Prop} {j : Inj} {H H' : AH} {w : World} (S : Sim base D j H w) {b o : Nat} (hb : D b) {m : List AV} (h : H.wr b o m = some H') (hm : AV.okL D m) (hs : AV.scL m = true) :
    ∃ w', (storeCells ⟨(j b).k, o, none⟩ (AV.conL j m)).run P w = .ok () w' ∧ Post base D j H w H' w' j := by
  unfold AH.wr at h
  cases hg : H.g b with
  | no => rw [hg] at h; cases h
  | ro l => rw [hg] at h; cases h
  | mp l => rw [hg] at h; cases h
  | rw l =>
    rw [hg] at h
    simp only at h
    split at h
    · rename_i hle
      simp only [Option.some.injEq] at h
      subst h
      obtain ⟨⟨cs, t, fr, g1, g2, g5, g6, g7⟩, g3, g4, g8⟩ := S.rw b l hb hg
      rw [conL_length] at g6
      have hlen : ∀ i, i < (AV.conL j m).length → o + i < cs.size := fun i hi => by rw [conL_length] at hi; omega
      refine ⟨_, run_storeCells_cells (P := P) (j b).k o (AV.conL j m) 0 w (fun i hi => ?_) (fun i hi => ?_) (conL_one hs), ?_⟩
      · have := hlen i hi
        simp [World.cell?, g1, this]
      · have := hlen i hi
        simp [World.frozen?, g1]
        intro h3
        omega
      · have hr := setCells_rest (j b).k (AV.conL j m) (o + 0) w
        refine S.up hb hg ?_ ?_ g1 (setCells_heap (j b).k t fr (AV.conL j m) (o + 0) w cs g1) (writeAll_size _ _ _) (by rw [splice_length hle]; omega) ?_ (fun k hk => setCells_heap_other _ k hk _ _ _) (setCells_size _ _ _ _) hr.1 hr.2.1 hr.2.2
        · rw [okL_iff] at g3 hm ⊢
          intro v hv
          simp only [splice, List.mem_append] at hv
          rcases hv with hv | hv | hv
          · exact g3 v (List.mem_of_mem_take hv)
          · exact hm v hv
          · exact g3 v (List.mem_of_mem_drop hv)
        · rw [AV.scL, List.all_eq_true] at g4 hs ⊢
          intro v hv
          simp only [splice, List.mem_append] at hv
          rcases hv with hv | hv | hv
          · exact g4 v (List.mem_of_mem_take hv)
          · exact hs v hv
          · exact g4 v (List.mem_of_mem_drop hv)
        · intro i v hi
          rw [writeAll_get _ _ _ _ (by rw [conL_length]; omega)]
          rw [conL_get] at hi
          obtain ⟨a, ha, rfl⟩ := Option.map_eq_some_iff.1 hi
          simp only [splice] at ha
          rw [conL_length]
          simp only [Nat.add_zero]
          by_cases h1 : i < o
          · rw [if_neg (by omega)]
            rw [List.getElem?_append_left (by simp; omega), List.getElem?_take_of_lt h1] at ha
            exact g2 i _ (by rw [conL_get, ha]; rfl)
          · rw [List.getElem?_append_right (by simp; omega)] at ha
            have hmin : min o l.length = o := by omega
            simp only [List.length_take, hmin] at ha
            by_cases h2 : i < o + m.length
            · rw [if_pos (by omega), conL_get]
              rw [List.getElem?_append_left (by omega)] at ha
              rw [ha]; rfl
            · rw [if_neg (by omega)]
              rw [List.getElem?_append_right (by omega), List.getElem?_drop] at ha
              rw [show o + m.length + (i - o - m.length) = i by omega] at ha
              exact g2 i _ (by rw [conL_get, ha]; rfl)
    · cases h
theorem Sim.own_at {base : Nat} {D : Nat → Prop} {j : Inj} {H : AH} {w : World} (S : Sim base D j H w) {b : Nat} (hb : D b) (h : (H.g b).isRw = true) (o : Nat) : (j b).at o = ⟨(j b).k, o, none⟩ := by
  cases hg : H.g b with
  | rw l => obtain ⟨_, _, _, _, h5, h6⟩ := S.rw b l hb hg; exact at_own h5 h6
  | _ => rw [hg] at h; simp [Blk.isRw] at h
theorem wr_rw {H H' : AH} {b o : Nat} {m : List AV} (h : H.wr b o m = some H') : (H.g b).isRw = true := by
  unfold AH.wr at h
  split at h
  · rename_i l hg; rw [hg]; rfl
  · cases h
theorem Sim.store {P : Program} {base : Nat} {D : Nat → Prop} {j : Inj} {H H' : AH} {w : World} (S : Sim base D j H w) {b o : Nat} (hb : D b) {m : List AV} (h : H.wr b o m = some H') (hm : AV.okL D m) (hs : AV.scL m = true) :
    ∃ w', (storeCells ((j b).at o) (AV.conL j m)).run P w = .ok () w' ∧ Post base D j H w H' w' j := by
  rw [S.own_at hb (wr_rw h)]
  exact S.store_k hb h hm hs

end Go.AX
