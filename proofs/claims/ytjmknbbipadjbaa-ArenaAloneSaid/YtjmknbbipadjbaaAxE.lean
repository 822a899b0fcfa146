/- AX, part E: an operation of the program's, resolved; what it yields is so (values alone). -/
import Derived.Test.YtjmknbbipadjbaaAxD
set_option linter.unusedSimpArgs false
set_option linter.unusedVariables false
namespace Go.AX
open Go

def isConstO : Operand → Bool
  | .const _ => true
  | _ => false
def resOO (nt : Nat) : Option Operand → Option (Option Opd)
  | none => some none
  | some x => (resO nt x).map some
def resL (nt : Nat) : List Operand → Option (List Opd)
  | [] => some []
  | x :: r => (resO nt x).bind fun a => (resL nt r).map (a :: ·)
def places (P : Program) (t : TypeId) : Option (Nat → Option (Nat × Nat)) :=
  match P.underlying t with
  | some (.struct fs) => (fs.toList.mapM fun f => (P.info? f.type).map fun i => (f.offset, i.size)).map fun l i => l[i]?
  | some (.array _ e) => (P.info? e).map fun ie i => some (i * ie.size, ie.size)
  | _ => none
def resParts (nt : Nat) (pl : Nat → Option (Nat × Nat)) : List (Nat × Operand) → Option (List Part)
  | [] => some []
  | p :: r => (pl p.1).bind fun on => (resO nt p.2).bind fun x => (resParts nt pl r).map (⟨on.1, on.2, x⟩ :: ·)
def fieldT (P : Program) (t : TypeId) (i : Nat) : Option Field :=
  match P.underlying t with
  | some (.struct fs) => fs[i]?
  | _ => none
def isIface (P : Program) (t : TypeId) : Bool :=
  match P.underlying t with
  | some (.interface _) => true
  | _ => false

def eqT (P : Program) (t : TypeId) : EqT :=
  match P.underlying t with
  | some .bool => .bo
  | some (.pointer _) => .pt
  | some (.interface _) => .ic
  | some (.slice _) => .sl
  | some (.map _ _) => .mp
  | some (.func _ _ _) => .fn
  | some (.struct _) | some (.array _ _) => if P.eqGuardType P.depth t then .no else match sizT P t, leavesS P 10000 t 0 with | some s, some l => .ag s l | _, _ => .no
  | _ => .no
def isU8 (P : Program) (t : TypeId) : Bool :=
  match P.underlying t with
  | some (.int .u8) => true
  | _ => false
def resCall (P : Program) (nt : Nat) (c : Call) : Option VOp :=
  match c.callee with
  | .builtin .len =>
    match c.argTypes[0]?, c.args.toList with
    | some t, [x] =>
      match P.underlying t with
      | some .string => (resO nt x).map (.len 0)
      | some (.slice _) => (resO nt x).map (.len 1)
      | some (.map _ _) => (resO nt x).map (.len 2)
      | some (.array n _) => some (.lenk n)
      | some (.pointer a) => match P.underlying a with | some (.array n _) => some (.lenk n) | _ => none
      | _ => none
    | _, _ => none
  | .builtin .cap =>
    match c.argTypes[0]?, c.args.toList with
    | some t, [x] => match P.underlying t with | some (.slice _) => (resO nt x).map .cap | _ => none
    | _, _ => none
  | .builtin .min => (resL nt c.args.toList).map (.mm false)
  | .builtin .max => (resL nt c.args.toList).map (.mm true)
  | .builtin .append =>
    match c.argTypes.toList, c.args.toList with
    | [t, u], [s, x] =>
      match P.underlying t, P.underlying u with
      | some (.slice e), some (.slice _) =>
        (P.info? e).bind fun i => if 0 < i.size ∧ 0 < i.bytes ∧ (zerT P e).map List.length = some i.size then (resO nt s).bind fun s => (resO nt x).map fun x => .app i.size i.bytes s x else none
      | _, _ => none
    | _, _ => none
  | .builtin .copy =>
    match c.argTypes[0]?, c.args.toList with
    | some t, [d, s] =>
      match P.underlying t with
      | some (.slice e) => (sizT P e).bind fun n => if 0 < n then (resO nt d).bind fun d => (resO nt s).map fun s => .cpy n d s else none
      | _ => none
    | _, _ => none
  | _ => none

def resV (P : Program) (nt : Nat) (o : Oper) : Option VOp :=
  match o.op with
  | .move x => (resO nt x).map .mv
  | .assign x => (resO nt x).map .mv
  | .pick c a b => (resO nt c).bind fun c => (resO nt a).bind fun a => (resO nt b).map fun b => .pick c a b
  | .alloc e => (zerT P e).map .alloc
  | .box _ x => (resO nt x).map .box
  | .build t ps => (places P t).bind fun pl => (zerT P t).bind fun z => (resParts nt pl ps.toList).map fun q => .bld z q
  | .buildSlice t n ps =>
    match P.underlying t with
    | some (.slice e) => (sizT P e).bind fun s => if n * s ≤ 2 ^ 24 ∧ 0 < s then (zerT P e).bind fun z => if z.length = s then (resParts nt (fun i => some (i * s, s)) ps.toList).map fun q => .bsl n (List.replicate n z).flatten q else none else none
    | _ => none
  | .load t x => (aggT P t).bind fun a => (sizT P t).bind fun n => (resO nt x).map fun x => if a then .ld n x else .ld1 x
  | .store t a x => (sizT P t).bind fun n => (resO nt a).bind fun a => (resO nt x).map fun x => .sto n a x
  | .nilCheck x => (resO nt x).map .nilc
  | .binOp op t x y _ => (resO nt x).bind fun x' => (resO nt y).map fun y' =>
      .bin op (eqT P t) (isConstO x || isConstO y) x' y'
  | .unOp op _ x => (resO nt x).map (.un op)
  | .convert s d x =>
    match P.underlying s, P.underlying d with
    | some (.int _), some (.int k) => (resO nt x).map (.cvi k)
    | some (.slice _), some (.slice e) => if s = d ∧ isU8 P e = true then (resO nt x).map .cvsame else none
    | _, _ => none
  | .makeInterface t x => match P.underlying t with | some (.interface _) => none | none => none | _ => (resO nt x).map (.mkif t)
  | .makeFunc f a c => (resL nt a.toList).bind fun a => (resL nt c.toList).map fun c => .mkfn f a c
  | .makeSlice t l c =>
    match P.underlying t with
    | some (.slice e) => (P.info? e).bind fun i => (zerT P e).bind fun z => if z.length = i.size then (resO nt l).bind fun l => (resO nt c).map fun c => .mks i.bytes z l c else none
    | _ => none
  | .slice t x lo hi mx =>
    match P.underlying t with
    | some (.slice e) => (sizT P e).bind fun s => (resO nt x).bind fun x => (resOO nt lo).bind fun lo => (resOO nt hi).bind fun hi => (resOO nt mx).bind fun mx => if mx.isSome && hi.isNone then none else some (.slc s x lo hi mx)
    | some .string => if mx.isSome then none else (resO nt x).bind fun x => (resOO nt lo).bind fun lo => (resOO nt hi).map fun hi => .slcs x lo hi
    | some (.array n e) => (sizT P e).bind fun s => (resO nt x).bind fun x => (resOO nt lo).bind fun lo => (resOO nt hi).bind fun hi => (resOO nt mx).bind fun mx => if mx.isSome && hi.isNone then none else some (.slca n s x lo hi mx)
    | _ => none
  | .fieldAddr t x i => (fieldT P t i).bind fun f => (sizT P f.type).bind fun s => if s = 0 then none else (resO nt x).map (.fa f.offset)
  | .field t x i => (fieldT P t i).bind fun f => (sizT P f.type).bind fun s => (aggT P f.type).bind fun a => (resO nt x).map (.fld f.offset s a)
  | .indexAddr t x i =>
    match P.underlying t with
    | some (.slice e) => (sizT P e).bind fun s => (resO nt x).bind fun x => (resO nt i).map fun i => .ia s x i
    | some (.array n e) => (sizT P e).bind fun s => (resO nt x).bind fun x => (resO nt i).map fun i => .iaa n s x i
    | _ => none
  | .index t x i =>
    match P.underlying t with
    | some (.array n e) => (sizT P e).bind fun s => (aggT P e).bind fun a => (resO nt x).bind fun x => (resO nt i).map fun i => .ix n s a x i
    | some .string => (resO nt x).bind fun x => (resO nt i).map fun i => .ixs x i
    | _ => none
  | .extract x i => (resO nt x).map fun x => .ext x i
  | .typeAssert x _ t ok =>
    match P.underlying t with
    | none => none
    | some (.interface _) => none
    | some _ => if ok then ((P.info? t).bind fun i => i.zero.bind absV).bind fun z => (resO nt x).map (.ta t z) else none
  | .call c => resCall P nt c
  | _ => none

/-! ### Parts laid into cells -/
theorem foldl_writeAll (off : Nat) : ∀ (vs : List Value) (k : Nat) (cells : Array Value), (vs.zipIdx k).foldl (fun cs (x : Value × Nat) => cs.setIfInBounds (off + x.2) x.1) cells = writeAll cells (off + k) vs
  | [], _, _ => rfl
  | v :: r, k, cells => by
    simp only [List.zipIdx_cons, List.foldl_cons, writeAll]
    exact foldl_writeAll off r (k + 1) _
theorem writeAll_splice {j : Inj} {cs m : List AV} {o : Nat} (h : o + m.length ≤ cs.length) : writeAll (AV.conL j cs).toArray o (AV.conL j m) = (AV.conL j (splice cs o m)).toArray := by
  apply Array.ext_getElem?
  intro i
  rw [writeAll_get _ _ _ _ (by simp [conL_length]; omega)]
  simp only [List.getElem?_toArray, conL_length]
  rw [conL_get, conL_get, conL_get]
  simp only [splice]
  by_cases h1 : i < o
  · rw [if_neg (by omega), List.getElem?_append_left (by simp; omega), List.getElem?_take_of_lt h1]
  · have hmin : min o cs.length = o := by omega
    rw [List.getElem?_append_right (by simp; omega)]
    simp only [List.length_take, hmin]
    by_cases h2 : i < o + m.length
    · rw [if_pos (by omega), List.getElem?_append_left (by omega)]
    · rw [if_neg (by omega), List.getElem?_append_right (by omega), List.getElem?_drop, show o + m.length + (i - o - m.length) = i by omega]
theorem okL_splice {D : Nat → Prop} {l m : List AV} {o : Nat} (hl : AV.okL D l) (hm : AV.okL D m) : AV.okL D (splice l o m) := by
  rw [okL_iff] at *
  intro v hv
  simp only [splice, List.mem_append] at hv
  rcases hv with hv | hv | hv
  · exact hl v (List.mem_of_mem_take hv)
  · exact hm v hv
  · exact hl v (List.mem_of_mem_drop hv)
theorem scL_splice {l m : List AV} {o : Nat} (hl : AV.scL l = true) (hm : AV.scL m = true) : AV.scL (splice l o m) = true := by
  rw [AV.scL, List.all_eq_true] at *
  intro v hv
  simp only [splice, List.mem_append] at hv
  rcases hv with hv | hv | hv
  · exact hl v (List.mem_of_mem_take hv)
  · exact hm v hv
  · exact hl v (List.mem_of_mem_drop hv)

section
variable {P : Program} {base nt : Nat} {D : Nat → Prop} {j : Inj} {H H' : AH} {w : World} {a : Act} {o : Oper} {v : AV} {E : Env}

theorem vfill_run (R : Rel nt D j E a.tmps) {pl pl' : Nat → Option (Nat × Nat)} (hpl : ∀ i, pl' i = pl i) : ∀ (ps : List (Nat × Operand)) (q : List Part) (cs l : List AV), resParts nt pl ps = some q → vfill E cs q = some l → AV.okL D cs → AV.scL cs = true →
    Instr.fill pl' (AV.conL j cs).toArray (ps.map fun p => (p.1, a.eval p.2)) = some (AV.conL j l).toArray ∧ AV.okL D l ∧ AV.scL l = true ∧ l.length = cs.length
  | [], q, cs, l, hq, hl, h1, h2 => by
    simp only [resParts, Option.some.injEq] at hq; subst hq
    simp only [vfill, Option.some.injEq] at hl; subst hl
    exact ⟨by simp [Instr.fill], h1, h2, rfl⟩
  | p :: r, q, cs, l, hq, hl, h1, h2 => by
    simp only [resParts, Option.bind_eq_some_iff, Option.map_eq_some_iff] at hq
    obtain ⟨on, hon, x, hx, q', hq', rfl⟩ := hq
    simp only [vfill, Option.bind_eq_some_iff] at hl
    obtain ⟨m, hm, hl⟩ := hl
    split at hl
    · rename_i hc
      obtain ⟨hc1, hc2⟩ := hc
      obtain ⟨e1, e2⟩ := R.ev hx
      obtain ⟨c1, c2, c3⟩ := cl_con (j := j) hm e2
      have hlen : (splice cs on.1 m).length = cs.length := splice_length (by omega)
      obtain ⟨g1, g2, g3, g4⟩ := vfill_run R hpl r q' (splice cs on.1 m) l hq' hl (okL_splice h1 c2) (scL_splice h2 c3)
      refine ⟨?_, g2, g3, by omega⟩
      simp only [List.map_cons, Instr.fill, hpl, hon]
      rw [e1, c1]
      simp only [List.size_toArray, conL_length]
      rw [if_neg (by simp; omega)]
      have hf := foldl_writeAll on.1 (AV.conL j m) 0 (AV.conL j cs).toArray
      simp only [Nat.add_zero] at hf
      have hz : ((AV.conL j m).toArray.zipIdx.foldl (fun cs (x : Value × Nat) => cs.setIfInBounds (on.1 + x.2) x.1) (AV.conL j cs).toArray) = (AV.conL j (splice cs on.1 m)).toArray := by
        rw [← writeAll_splice (by omega), ← hf, ← Array.foldl_toList]
        simp
      rw [hz]
      exact g1
    · cases hl

/-! ### The values' operations -/
theorem snd_mv (R : Rel nt D j E a.tmps) (S : Sim base D j H w) {x : Operand} {x' : Opd} (ho : o.op = .move x ∨ o.op = .assign x) (hx : resO nt x = some x') : Snd P base D j H w a.eval o (ev E x') H := by
  obtain ⟨e1, e2⟩ := R.ev hx
  refine Snd.same S ?_ e2
  rcases ho with ho | ho <;> simp [execOp, ho, e1]

theorem pick_run {c x y : AV} (h : AV.pick c x y = some v) : ∃ b, c = .bo b ∧ v = bif b then x else y := by
  cases c <;> simp only [AV.pick, Option.some.injEq, reduceCtorEq] at h
  exact ⟨_, rfl, h.symm⟩
theorem snd_pick (R : Rel nt D j E a.tmps) (S : Sim base D j H w) {c x y : Operand} {c' x' y' : Opd} (ho : o.op = .pick c x y) (hc : resO nt c = some c') (hx : resO nt x = some x') (hy : resO nt y = some y')
    (h : AV.pick (ev E c') (ev E x') (ev E y') = some v) : Snd P base D j H w a.eval o v H := by
  obtain ⟨c1, c2⟩ := R.ev hc
  obtain ⟨x1, x2⟩ := R.ev hx
  obtain ⟨y1, y2⟩ := R.ev hy
  obtain ⟨b, hb, rfl⟩ := pick_run h
  rw [hb] at c1
  refine Snd.same S ?_ (by cases b <;> simpa)
  cases b <;> simp [execOp, ho, c1, x1, y1, AV.con, asBool]

theorem guard_run {op : BinOp} {t : TypeId} {x y : Operand} {u q : AV} (hni : u = .ni → q = .ni → (isConstO x || isConstO y) = true) (hag : ∀ l m, u = .ag l → q = .ag m → P.eqGuardType P.depth t = false) :
    (eqGuard op t x y (u.con j) (q.con j)).run P w = .ok () w := by
  cases u <;> cases q <;> first
    | (simp [eqGuard, AV.con]; done)
    | skip
  · have h := hni rfl rfl
    simp only [AV.con]
    cases op <;> cases x <;> cases y <;> simp_all [eqGuard, isConstO]
  · simp only [AV.con]
    exact run_eqGuard_agg w op t x y _ _ (hag _ _ rfl rfl)

theorem leavesT_run {t : TypeId} {s : Nat} {l : List (Nat × Nat)} {xs ys : List AV} {e : Bool} (hag : aggT P t = some true) (hs : sizT P t = some s) (hl : leaves P 10000 t 0 = some l) (hx : xs.length = s) (hy : ys.length = s) (h : alleq xs ys l = some e) :
    (Op.equal t (.agg (AV.conL j xs).toArray) (.agg (AV.conL j ys).toArray)).run P w = .ok e w := by
  have hp : ∀ zs : List AV, zs.length = s → partV P t (AV.conL j zs).toArray 0 s = some (.agg (AV.conL j zs).toArray) := by
    intro zs hz
    unfold partV
    rw [hag]
    simp only [Option.some.injEq, Value.agg.injEq]
    apply Array.ext'
    simp [← hz, List.take_of_length_le, conL_length]
  exact equal_runs 10000 t 0 s l e hl hs h _ _ (hp xs hx) (hp ys hy)

/-- Not what '==' looks into. -/
def flatEq (te : EqT) (u q : AV) : Option Bool := match te with | .ag _ _ => none | _ => veq te true u q
theorem flat_run {t : TypeId} {u q : AV} {e : Bool} (h : flatEq (eqT P t) u q = some e) (d : Nat) : (Op.equalIn (d + 1) t (u.con j) (q.con j)).run P w = .ok e w := by
  have hun : ∀ dd, P.underlying t = some dd → (underlying t).run P w = .ok dd w := fun dd hd => run_underlying hd w
  unfold eqT at h
  split at h
  · rename_i hd
    simp only [flatEq, veq, if_true] at h
    split at h
    all_goals first
      | (simp only [Option.some.injEq] at h; subst h; simp only [AV.con, Op.equalIn, Sem.run_bind, hun _ hd, Result.andThen_ok, Sem.run_pure, Option.isNone_none, Option.isNone_some])
      | (simp only [Option.some.injEq] at h; subst h; simp [AV.con, Op.equalIn, hun _ hd])
      | cases h
  · rename_i hd
    simp only [flatEq, veq, if_true] at h
    split at h
    all_goals first
      | (simp only [Option.some.injEq] at h; subst h; simp only [AV.con, Op.equalIn, Sem.run_bind, hun _ hd, Result.andThen_ok, Sem.run_pure, Option.isNone_none, Option.isNone_some])
      | (simp only [Option.some.injEq] at h; subst h; simp [AV.con, Op.equalIn, hun _ hd])
      | cases h
  · rename_i hd
    simp only [flatEq, veq, if_true] at h
    split at h
    all_goals first
      | (simp only [Option.some.injEq] at h; subst h; simp only [AV.con, Op.equalIn, Sem.run_bind, hun _ hd, Result.andThen_ok, Sem.run_pure, Option.isNone_none, Option.isNone_some])
      | (simp only [Option.some.injEq] at h; subst h; simp [AV.con, Op.equalIn, hun _ hd])
      | cases h
  · rename_i hd
    simp only [flatEq, veq, if_true] at h
    split at h
    all_goals first
      | (simp only [Option.some.injEq] at h; subst h; simp only [AV.con, Op.equalIn, Sem.run_bind, hun _ hd, Result.andThen_ok, Sem.run_pure, Option.isNone_none, Option.isNone_some])
      | (simp only [Option.some.injEq] at h; subst h; simp [AV.con, Op.equalIn, hun _ hd])
      | cases h
  · rename_i hd
    simp only [flatEq, veq, if_true] at h
    split at h
    all_goals first
      | (simp only [Option.some.injEq] at h; subst h; simp only [AV.con, Op.equalIn, Sem.run_bind, hun _ hd, Result.andThen_ok, Sem.run_pure, Option.isNone_none, Option.isNone_some])
      | (simp only [Option.some.injEq] at h; subst h; simp [AV.con, Op.equalIn, hun _ hd])
      | cases h
  · rename_i hd
    simp only [flatEq, veq, if_true] at h
    split at h
    all_goals first
      | (simp only [Option.some.injEq] at h; subst h; simp only [AV.con, Op.equalIn, Sem.run_bind, hun _ hd, Result.andThen_ok, Sem.run_pure, Option.isNone_none, Option.isNone_some])
      | (simp only [Option.some.injEq] at h; subst h; simp [AV.con, Op.equalIn, hun _ hd])
      | cases h
  · rename_i hd
    split at h
    · simp [flatEq, veq] at h
    · split at h <;> simp [flatEq, veq] at h
  · rename_i hd
    split at h
    · simp [flatEq, veq] at h
    · split at h <;> simp [flatEq, veq] at h
  · simp [flatEq, veq] at h
theorem veq_run {cn : Bool} {t : TypeId} {x y : Operand} {u q : AV} {e : Bool} (hcn : cn = (isConstO x || isConstO y)) (h : veq (eqT P t) cn u q = some e) (op : BinOp) :
    (Op.equal t (u.con j) (q.con j)).run P w = .ok e w ∧ (eqGuard op t x y (u.con j) (q.con j)).run P w = .ok () w := by
  have flat : flatEq (eqT P t) u q = some e → (∀ l m, u = .ag l → q = .ag m → False) → (Op.equal t (u.con j) (q.con j)).run P w = .ok e w ∧ (eqGuard op t x y (u.con j) (q.con j)).run P w = .ok () w := by
    intro hf hna
    refine ⟨flat_run hf 9999, guard_run ?_ fun l m h1 h2 => (hna l m h1 h2).elim⟩
    rintro rfl rfl
    cases hte : eqT P t <;> rw [hte] at h <;> simp only [veq, reduceCtorEq] at h
    split at h
    · rename_i hc; rw [← hcn]; exact hc
    · cases h
  cases hte : eqT P t with
  | ag s l =>
    rw [hte] at h
    cases u <;> cases q <;> simp only [veq, reduceCtorEq] at h
    split at h
    · rename_i hc
      have hx : aggT P t = some true ∧ sizT P t = some s ∧ leaves P 10000 t 0 = some l ∧ P.eqGuardType P.depth t = false := by
        unfold eqT at hte
        split at hte <;> try (cases hte; done)
        all_goals
          rename_i hd
          split at hte
          · cases hte
          · rename_i hg
            split at hte
            · rename_i s' l' hs hl
              simp only [EqT.ag.injEq] at hte
              obtain ⟨rfl, rfl⟩ := hte
              exact ⟨by unfold aggT; rw [hd]; rfl, hs, by rw [← leavesS_eq]; exact hl, by simpa using hg⟩
            · cases hte
      exact ⟨leavesT_run hx.1 hx.2.1 hx.2.2.1 hc.1 hc.2 h, guard_run (by simp) fun _ _ _ _ => hx.2.2.2⟩
    · cases h
  | _ =>
    rw [hte] at h
    refine flat ?_ ?_
    · rw [hte]
      simp only [flatEq]
      simp only [veq] at h ⊢
      first
        | exact h
        | (split at h <;> first
             | exact h
             | (split at h
                · simpa using h
                · cases h)
             | simpa using h
             | cases h)
    · rintro l m rfl rfl
      simp [veq] at h

/-- The values that are neither two numbers nor two strings. -/
def twoOf : AV → AV → Bool
  | .it _ _, .it _ _ => true
  | .st _, .st _ => true
  | _, _ => false
theorem vbin_eq {op : BinOp} {te : EqT} {cn : Bool} {u q : AV} (ht : twoOf u q = false) (h : vbin op te cn u q = some v) : ∃ e, veq te cn u q = some e ∧ (op = .eql ∧ v = .bo e ∨ op = .neq ∧ v = .bo (!e)) := by
  cases u <;> cases q <;> simp only [twoOf, Bool.true_eq_false] at ht <;> (cases op <;> simp only [vbin, Option.map_eq_some_iff, reduceCtorEq] at h <;> obtain ⟨e, he, rfl⟩ := h <;> first | exact ⟨e, he, .inl ⟨rfl, rfl⟩⟩ | exact ⟨e, he, .inr ⟨rfl, rfl⟩⟩)
theorem binOp_eql {t : TypeId} {u q : AV} {e : Bool} (ht : twoOf u q = false) (hfl : ∀ k x, u ≠ .fl k x) (r : (Op.equal t (u.con j) (q.con j)).run P w = .ok e w) : (binOp .eql t (u.con j) (q.con j)).run P w = .ok (.bool e) w := by
  cases u <;> cases q <;> simp only [twoOf, Bool.true_eq_false] at ht <;> first
    | exact absurd rfl (hfl _ _)
    | (simp only [AV.con] at r ⊢
       refine (congrArg (fun s => Sem.run P s w) (show binOp .eql t _ _ = (do pure (Value.bool (← Op.equal t _ _))) from rfl)).trans ?_
       simp only [Sem.run_bind, r, Result.andThen_ok, Sem.run_pure])
theorem binOp_neq {t : TypeId} {u q : AV} {e : Bool} (ht : twoOf u q = false) (hfl : ∀ k x, u ≠ .fl k x) (r : (Op.equal t (u.con j) (q.con j)).run P w = .ok e w) : (binOp .neq t (u.con j) (q.con j)).run P w = .ok (.bool (!e)) w := by
  cases u <;> cases q <;> simp only [twoOf, Bool.true_eq_false] at ht <;> first
    | exact absurd rfl (hfl _ _)
    | (simp only [AV.con] at r ⊢
       refine (congrArg (fun s => Sem.run P s w) (show binOp .neq t _ _ = (do pure (Value.bool (!(← Op.equal t _ _)))) from rfl)).trans ?_
       simp only [Sem.run_bind, r, Result.andThen_ok, Sem.run_pure])
theorem veq_nofl {te : EqT} {cn : Bool} {u q : AV} {e : Bool} (h : veq te cn u q = some e) : ∀ k x, u ≠ .fl k x := by
  rintro k x rfl
  cases te <;> simp [veq] at h

theorem snd_bin (R : Rel nt D j E a.tmps) (S : Sim base D j H w) {op : BinOp} {t t' : TypeId} {x y : Operand} {x' y' : Opd} (ho : o.op = .binOp op t x y t') (hx : resO nt x = some x') (hy : resO nt y = some y')
    (h : vbin op (eqT P t) (isConstO x || isConstO y) (ev E x') (ev E y') = some v) : Snd P base D j H w a.eval o v H := by
  obtain ⟨x1, x2⟩ := R.ev hx
  obtain ⟨y1, y2⟩ := R.ev hy
  generalize ev E x' = u at *
  generalize ev E y' = q at *
  have fin : ∀ (vv : AV), vv.ok D → (eqGuard op t x y (u.con j) (q.con j)).run P w = .ok () w → (binOp op t (u.con j) (q.con j)).run P w = .ok (vv.con j) w → Snd P base D j H w a.eval o vv H := by
    intro vv hv g r
    refine Snd.same S ?_ hv
    simp [execOp, ho, x1, y1, g, r]
  by_cases ht : twoOf u q = true
  · cases u <;> cases q <;> simp only [twoOf, reduceCtorEq, Bool.false_eq_true] at ht
    · rename_i k m k' n
      have g : (eqGuard op t x y ((AV.it k m).con j) ((AV.it k' n).con j)).run P w = .ok () w := guard_run (by simp) (by simp)
      simp only [vbin] at h
      split at h
      · rename_i hs
        refine fin v ?_ g (shBin_run hs h t)
        unfold shBin at h
        split at h
        · cases h
        · cases op <;> simp only [Option.some.injEq, reduceCtorEq] at h <;> subst h <;> simp [AV.ok]
      · rename_i hs
        split at h
        · rename_i hk
          subst hk
          refine fin v ?_ g (intBin_run (by simpa using hs) h t)
          cases op <;> simp only [intBin, Option.some.injEq, reduceCtorEq] at h <;> first
            | (subst h; simp [AV.ok]; done)
            | (split at h
               · cases h
               · simp only [Option.some.injEq] at h; subst h; simp [AV.ok])
        · cases h
    · rename_i m n
      have g : (eqGuard op t x y ((AV.st m).con j) ((AV.st n).con j)).run P w = .ok () w := guard_run (by simp) (by simp)
      cases op <;> simp only [vbin, Option.some.injEq, reduceCtorEq] at h <;> subst h <;> refine fin _ (by simp [AV.ok]) g ?_ <;> simp [binOp, AV.con, Op.stringOp]
  · have ht' : twoOf u q = false := by simpa using ht
    obtain ⟨e, he, hv⟩ := vbin_eq ht' h
    obtain ⟨r, g⟩ := veq_run (P := P) (j := j) (w := w) rfl he op
    rcases hv with ⟨rfl, rfl⟩ | ⟨rfl, rfl⟩
    · exact fin _ (by simp [AV.ok]) g (by simpa [AV.con] using binOp_eql ht' (veq_nofl he) r)
    · exact fin _ (by simp [AV.ok]) g (by simpa [AV.con] using binOp_neq ht' (veq_nofl he) r)

theorem snd_un (R : Rel nt D j E a.tmps) (S : Sim base D j H w) {op : UnOp} {t : TypeId} {x : Operand} {x' : Opd} (ho : o.op = .unOp op t x) (hx : resO nt x = some x') (h : vun op (ev E x') = some v) : Snd P base D j H w a.eval o v H := by
  obtain ⟨x1, x2⟩ := R.ev hx
  generalize ev E x' = u at *
  cases u <;> simp only [vun, reduceCtorEq] at h <;> cases op <;> simp only [Option.some.injEq, reduceCtorEq] at h <;> subst h <;> refine Snd.same S ?_ (by simp [AV.ok]) <;> simp [execOp, ho, x1, AV.con, Op.unary, Op.intArith, Op.intBits, Go.bits]

theorem snd_cvi (R : Rel nt D j E a.tmps) (S : Sim base D j H w) {s d : TypeId} {x : Operand} {x' : Opd} {k k' : IntKind} (ho : o.op = .convert s d x) (hs : P.underlying s = some (.int k')) (hd : P.underlying d = some (.int k)) (hx : resO nt x = some x') (h : vcvi k (ev E x') = some v) :
    Snd P base D j H w a.eval o v H := by
  obtain ⟨x1, x2⟩ := R.ev hx
  generalize ev E x' = u at *
  cases u <;> simp only [vcvi, Option.some.injEq, reduceCtorEq] at h
  subst h
  refine Snd.same S ?_ (by simp [AV.ok])
  simp [execOp, ho, convert, run_underlying hs, run_underlying hd, x1, AV.con, Conv.intToInt]

theorem snd_mkif (R : Rel nt D j E a.tmps) (S : Sim base D j H w) {t : TypeId} {x : Operand} {x' : Opd} {dd : TypeDesc} (ho : o.op = .makeInterface t x) (ht : P.underlying t = some dd) (hn : ∀ ms, dd ≠ .interface ms) (hx : resO nt x = some x') :
    Snd P base D j H w a.eval o (.fc t (ev E x')) H := by
  obtain ⟨x1, x2⟩ := R.ev hx
  refine Snd.same S ?_ (by simpa [AV.ok] using x2)
  cases dd <;> first
    | exact absurd rfl (hn _)
    | simp [execOp, ho, Instr.makeInterface, run_underlying ht, x1, AV.con]

theorem resL_run (R : Rel nt D j E a.tmps) : ∀ {xs : List Operand} {ys : List Opd}, resL nt xs = some ys → xs.map a.eval = AV.conL j (ys.map (ev E)) ∧ AV.okL D (ys.map (ev E))
  | [], ys, h => by simp only [resL, Option.some.injEq] at h; subst h; exact ⟨rfl, by simp only [List.map_nil, AV.okL]⟩
  | x :: r, ys, h => by
    simp only [resL, Option.bind_eq_some_iff, Option.map_eq_some_iff] at h
    obtain ⟨x', hx, ys', hy, rfl⟩ := h
    obtain ⟨x1, x2⟩ := R.ev hx
    obtain ⟨r1, r2⟩ := resL_run R hy
    exact ⟨by simp only [List.map_cons, AV.conL, x1, r1], x2, r2⟩
theorem snd_mkfn (R : Rel nt D j E a.tmps) (S : Sim base D j H w) {f : Fn} {p c : Array Operand} {p' c' : List Opd} (ho : o.op = .makeFunc f p c) (hp : resL nt p.toList = some p') (hc : resL nt c.toList = some c') :
    Snd P base D j H w a.eval o (.fn f (p'.map (ev E)) (c'.map (ev E))) H := by
  obtain ⟨p1, p2⟩ := resL_run R hp
  obtain ⟨c1, c2⟩ := resL_run R hc
  refine Snd.same S ?_ ⟨p2, c2⟩
  have e : ∀ (q : Array Operand) (l : List Value), q.toList.map a.eval = l → q.map a.eval = l.toArray := fun q l hq => by
    apply Array.ext'; simpa using hq
  simp [execOp, ho, Instr.makeFunc, AV.con, e _ _ p1, e _ _ c1]

theorem snd_ext (R : Rel nt D j E a.tmps) (S : Sim base D j H w) {i : Nat} {x : Operand} {x' : Opd} (ho : o.op = .extract x i) (hx : resO nt x = some x') (h : vext i (ev E x') = some v) : Snd P base D j H w a.eval o v H := by
  obtain ⟨x1, x2⟩ := R.ev hx
  generalize ev E x' = u at *
  cases u <;> simp only [vext, reduceCtorEq] at h
  rename_i l
  refine Snd.same S ?_ (okL_iff.1 x2 v (List.mem_of_getElem? h))
  have hg : (AV.conL j l).toArray[i]? = some (v.con j) := conA_get h
  simp [execOp, ho, Instr.extract, x1, AV.con] at hg ⊢
  simp [hg]

theorem apart_run {t : TypeId} {n off : Nat} {ag : Bool} {l : List AV} (hs : sizT P t = some n) (ha : aggT P t = some ag) (h : apart l off n ag = some v) (hl : AV.okL D l) (hsc : AV.scL l = true) :
    (part t (AV.conL j l).toArray off).run P w = .ok (v.con j) w ∧ v.ok D := by
  cases ag with
  | true =>
    simp only [apart] at h
    split at h
    · rename_i hle
      simp only [Option.some.injEq] at h; subst h
      refine ⟨?_, ?_, ?_⟩
      · refine run_part' (o := off) (s := n) hs ?_ w
        unfold partV; rw [ha]
        simp only [AV.con, Option.some.injEq, Value.agg.injEq]
        apply Array.ext'
        simp [conL_eq, List.map_take, List.map_drop]
      · rw [okL_iff] at hl ⊢
        exact fun x hx => hl x (List.mem_of_mem_drop (List.mem_of_mem_take hx))
      · rw [AV.scL, List.all_eq_true] at hsc ⊢
        exact fun x hx => hsc x (List.mem_of_mem_drop (List.mem_of_mem_take hx))
    · cases h
  | false =>
    simp only [apart] at h
    refine ⟨run_part' (o := off) (s := n) hs ?_ w, okL_iff.1 hl v (List.mem_of_getElem? h)⟩
    unfold partV; rw [ha]
    exact conA_get h
theorem snd_fld (R : Rel nt D j E a.tmps) (S : Sim base D j H w) {t : TypeId} {i n : Nat} {ag : Bool} {f : Field} {x : Operand} {x' : Opd} (ho : o.op = .field t x i) (hf : fieldT P t i = some f) (hs : sizT P f.type = some n) (ha : aggT P f.type = some ag)
    (hx : resO nt x = some x') (h : vfld f.offset n ag (ev E x') = some v) : Snd P base D j H w a.eval o v H := by
  obtain ⟨x1, x2⟩ := R.ev hx
  generalize ev E x' = u at *
  cases u <;> simp only [vfld, reduceCtorEq] at h
  rename_i l
  obtain ⟨r1, r2⟩ := apart_run (P := P) (j := j) (w := w) hs ha h x2.1 x2.2
  unfold fieldT at hf
  split at hf
  · rename_i fs hu
    refine Snd.same S ?_ r2
    simp [execOp, ho, Instr.field, run_underlying hu, x1, AV.con, asAgg, hf] at r1 ⊢
    simp [r1]
  · cases hf
theorem snd_ix (R : Rel nt D j E a.tmps) (S : Sim base D j H w) {t e : TypeId} {n s : Nat} {ag : Bool} {x i : Operand} {x' i' : Opd} (ho : o.op = .index t x i) (hu : P.underlying t = some (.array n e)) (hs : sizT P e = some s) (ha : aggT P e = some ag)
    (hx : resO nt x = some x') (hi : resO nt i = some i') (h : vix n s ag (ev E x') (ev E i') = some v) : Snd P base D j H w a.eval o v H := by
  obtain ⟨x1, x2⟩ := R.ev hx
  obtain ⟨i1, i2⟩ := R.ev hi
  generalize ev E x' = u at *
  generalize ev E i' = q at *
  cases u <;> cases q <;> simp only [vix, reduceCtorEq] at h
  rename_i l k p
  split at h
  · rename_i hb
    obtain ⟨r1, r2⟩ := apart_run (P := P) (j := j) (w := w) hs ha h x2.1 x2.2
    refine Snd.same S ?_ r2
    simp [execOp, ho, Instr.index, run_underlying hu, x1, i1, AV.con, asIntOf, hb.1, hb.2, run_sizeOf' hs] at r1 ⊢
    simp [r1]
  · cases h
theorem snd_ixs (R : Rel nt D j E a.tmps) (S : Sim base D j H w) {t : TypeId} {x i : Operand} {x' i' : Opd} (ho : o.op = .index t x i) (hu : P.underlying t = some .string)
    (hx : resO nt x = some x') (hi : resO nt i = some i') (h : vixs (ev E x') (ev E i') = some v) : Snd P base D j H w a.eval o v H := by
  obtain ⟨x1, x2⟩ := R.ev hx
  obtain ⟨i1, i2⟩ := R.ev hi
  generalize ev E x' = u at *
  generalize ev E i' = q at *
  cases u <;> cases q <;> simp only [vixs, reduceCtorEq] at h
  rename_i l k p
  split at h
  · rename_i hb
    simp only [Option.some.injEq] at h; subst h
    refine Snd.same S ?_ (by simp [AV.ok])
    have hg : l[p.toNat]? = some (l[p.toNat]'hb.2) := by simp [hb.2]
    simp [execOp, ho, Instr.index, run_underlying hu, x1, i1, AV.con, asIntOf, hb.1, hg]
  · cases h
theorem snd_ta (R : Rel nt D j E a.tmps) (S : Sim base D j H w) {t xt : TypeId} {x : Operand} {x' : Opd} {z : AV} {dd : TypeDesc} (ho : o.op = .typeAssert x xt t true) (hu : P.underlying t = some dd) (hn : ∀ ms, dd ≠ .interface ms) (hz : ((P.info? t).bind fun i => i.zero.bind absV) = some z)
    (hx : resO nt x = some x') (h : vta t z (ev E x') = some v) : Snd P base D j H w a.eval o v H := by
  obtain ⟨x1, x2⟩ := R.ev hx
  simp only [Option.bind_eq_some_iff] at hz
  obtain ⟨i, hi, zv, hzv, hz⟩ := hz
  obtain ⟨z1, z2⟩ := absV_con (j := j) (D := D) hz
  have hzero : (zeroValue t).run P w = .ok zv w := by simp [zeroValue, typeInfo, hi, hzv]
  generalize ev E x' = u at *
  cases u <;> simp only [vta, Option.some.injEq, reduceCtorEq] at h
  · rename_i tt vv
    split at h
    · rename_i he
      simp only [Option.some.injEq] at h; subst h
      refine Snd.same S ?_ ⟨x2, by simp [AV.ok], by simp only [AV.okL]⟩
      subst he
      cases dd <;> first
        | exact absurd rfl (hn _)
        | simp [execOp, ho, Instr.typeAssert, run_underlying hu, x1, AV.con, AV.conL]
    · rename_i he
      simp only [Option.some.injEq] at h; subst h
      refine Snd.same S ?_ ⟨z2, by simp [AV.ok], by simp only [AV.okL]⟩
      cases dd <;> first
        | exact absurd rfl (hn _)
        | simp [execOp, ho, Instr.typeAssert, run_underlying hu, x1, AV.con, AV.conL, he, hzero, z1]
  · subst h
    refine Snd.same S ?_ ⟨z2, by simp [AV.ok], by simp only [AV.okL]⟩
    cases dd <;> first
      | exact absurd rfl (hn _)
      | simp [execOp, ho, Instr.typeAssert, run_underlying hu, x1, AV.con, AV.conL, hzero, z1]
end

end Go.AX
