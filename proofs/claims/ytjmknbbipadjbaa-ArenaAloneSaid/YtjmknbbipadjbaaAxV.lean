/- AX, part V: from the world to the abstract heap, and back: a law's row. -/
import Derived.Test.YtjmknbbipadjbaaAxU
import Derived.ProofKit
import Derived.OpenShut
import Derived.ShutString
import Derived.ChangeOld
import Derived.Below
import Derived.Carry
import Derived.SizedLaws
set_option linter.unusedSimpArgs false
set_option linter.unusedVariables false
namespace Go.AX
open Go Go.ChangeShapes Go.WideShapes Go.ChangeAt Go.RowKit

/-! ### The heap of what is handed in -/
def injOf (rows : List (Addr × List AV)) : Inj := fun b => match rows[b]? with | some r => ⟨r.1.block, 0, r.1.off, r.1.spot⟩ | none => ⟨0, 0, 0, none⟩
def blkOf (l : List AV) : Blk := match l with | [] => .no | x :: r => .ro (x :: r)
def AH.of (rows : List (Addr × List AV)) : AH := ⟨rows.length, fun b => match rows[b]? with | some r => blkOf r.2 | none => .no⟩
structure RowsIn (W : World) (rows : List (Addr × List AV)) : Prop where
  cell : ∀ (b : Nat) (a : Addr) (l : List AV), rows[b]? = some (a, l) → ∀ (i : Nat) v, l[i]? = some v → W.cell? (a.add i) = some (v.con (injOf rows)) ∧ v.ok (· < rows.length) ∧ v.sc = true
theorem cell_block {W : World} {a : Addr} {v : Value} (h : W.cell? a = some v) : a.spot = none ∧ ∃ cs t fr, W.heap[a.block]? = some (.cells cs t fr) ∧ cs[a.off]? = some v := by
  unfold World.cell? at h
  split at h
  · rename_i c e f hb
    split at h
    · cases h
    · rename_i hs
      exact ⟨by simpa using hs, c, e, f, hb, h⟩
  · cases h
theorem blkOf_ro {l m : List AV} (h : blkOf l = .ro m) : l = m ∧ l ≠ [] := by
  cases l with
  | nil => simp [blkOf] at h
  | cons x r => simp only [blkOf, Blk.ro.injEq] at h; exact ⟨h, by simp⟩
theorem of_g {rows : List (Addr × List AV)} {b : Nat} : (AH.of rows).g b = .no ∨ ∃ a l, rows[b]? = some (a, l) ∧ l ≠ [] ∧ (AH.of rows).g b = .ro l := by
  simp only [AH.of]
  cases h : rows[b]? with
  | none => exact .inl rfl
  | some r =>
    obtain ⟨a, l⟩ := r
    cases l with
    | nil => exact .inl rfl
    | cons x r => exact .inr ⟨a, x :: r, rfl, by simp, rfl⟩
theorem of_own {rows : List (Addr × List AV)} (b : Nat) : ((AH.of rows).g b).own = false := by
  rcases of_g (rows := rows) (b := b) with h | ⟨_, _, _, _, h⟩ <;> rw [h] <;> rfl
theorem Sim.of {W : World} {rows : List (Addr × List AV)} (h : RowsIn W rows) : Sim W.heap.size (· < rows.length) (injOf rows) (AH.of rows) W := by
  refine ⟨fun b hb => hb, ?_, Nat.le_refl _, ?_, ?_, ?_, ?_⟩
  · intro b hb
    have : rows[b]? = none := List.getElem?_eq_none hb
    simp only [AH.of, this]
  · intro b l hb hg
    rcases of_g (rows := rows) (b := b) with h0 | ⟨a, l', h1, h2, h3⟩
    · rw [h0] at hg; cases hg
    · rw [h3] at hg
      simp only [Blk.ro.injEq] at hg; subst hg
      have hc := h.cell b a l' h1
      have hj : injOf rows b = ⟨a.block, 0, a.off, a.spot⟩ := by simp only [injOf, h1]
      refine ⟨?_, okL_iff.2 fun v hv => ?_, List.all_eq_true.2 fun v hv => ?_⟩
      · cases l' with
        | nil => exact absurd rfl h2
        | cons x r =>
          obtain ⟨c0, _⟩ := hc 0 x rfl
          have ha0 : a.add 0 = a := by simp [Addr.add]
          rw [ha0] at c0
          obtain ⟨hs, cs, t, fr, hb0, _⟩ := cell_block c0
          refine ⟨cs, t, fr, by rw [hj]; exact hb0, fun i v hv => ?_⟩
          rw [conL_get] at hv
          obtain ⟨y, hy, rfl⟩ := Option.map_eq_some_iff.1 hv
          obtain ⟨c1, _⟩ := hc i y hy
          obtain ⟨_, cs', t', fr', hb1, hc1⟩ := cell_block c1
          have hblk : (a.add i).block = a.block := by unfold Addr.add; split <;> rfl
          have hoff : (a.add i).off = a.off + i := by
            unfold Addr.add
            split
            · rename_i h; simp [h]
            · rfl
          rw [hblk, hb0] at hb1
          simp only [Option.some.injEq, Obj.cells.injEq] at hb1
          rw [hoff, ← hb1.1] at hc1
          rw [hj]
          exact ⟨hs, hc1⟩
      · obtain ⟨i, hi⟩ := List.mem_iff_getElem?.1 hv
        exact (hc i v hi).2.1
      · obtain ⟨i, hi⟩ := List.mem_iff_getElem?.1 hv
        exact (hc i v hi).2.2
  · intro b l hb hg
    have := of_own (rows := rows) b
    rw [hg] at this; cases this
  · intro b l hb hg
    have := of_own (rows := rows) b
    rw [hg] at this; cases this
  · intro b b' hb hb' hg
    rw [of_own] at hg; cases hg
theorem below_of_fr {D : Nat → Prop} {j : Inj} {H : AH} {W W' : World} (h : Fr D j H W W') (ho : ∀ b, (H.g b).own = false) : Below W.heap.size W W' :=
  ⟨h.os, h.tape, h.output, h.size, fun k hk => h.block k hk fun b _ hb => by rw [ho] at hb; cases hb⟩
theorem calls_of_call {P : Program} {f : FuncId} {W : World} {rows : List (Addr × List AV)} {args : List AV} {Q : AH → Prop} (hr : RowsIn W rows) (hok : AV.okL (· < rows.length) args)
    (hc : Call P f args (AH.of rows) fun r H' => r = .ret (.bo true) ∧ Q H') : Calls P f (AV.conL (injOf rows) args).toArray W fun e W' => e = .returned (.bool true) ∧ Below W.heap.size W W' := by
  obtain ⟨r, H', h1, rfl, _⟩ := hc
  refine (h1 _ _ _ _ (Sim.of hr) hok).mono ?_
  rintro e W' ⟨j', rfl, _, hp⟩
  exact ⟨rfl, below_of_fr hp.fr of_own⟩

/-! ### The arguments, behind the call -/
theorem trodAll_below {H : Type} {enc : TypeId × Value → H} {P : Program} (hl : laidOutB P = true) {W W' : World} (hb : Below W.heap.size W W') : ∀ (ts : List TypeId) (vs : List Value) (ds : List (DataW H)) (ps : List MemPlace),
    (∀ t ∈ ts, P.readableRec t = true ∧ t < P.types.size) → DataW.TrodAll enc P W 0 (fun _ => true) true ts vs ds ps → DataW.TrodAll enc P W' 0 (fun b => decide (b < W.heap.size)) true ts vs ds ps
  | [], vs, ds, ps, _, h => by
    obtain ⟨rfl, rfl, rfl⟩ := trodAll_nil h
    exact rfl
  | t :: ts, vs, ds, ps, ht, h => by
    obtain ⟨v, vs', d, ds', p, q, rfl, rfl, rfl, h1, h2⟩ := trodAll_cons h
    obtain ⟨r1, r2⟩ := ht t (by simp)
    refine trodAll_cons_mk (Below.trod hl r1 r2 h1 hb ?_) (trodAll_below hl hb ts vs' ds' q (fun t h => ht t (by simp [h])) h2)
    obtain ⟨m, hm⟩ := h1
    exact DataW.trod_lt m _ _ _ hm
theorem trodAll_length {H : Type} {enc : TypeId × Value → H} {P : Program} {W : World} {base : Nat} {spare : Nat → Bool} {held : Bool} : ∀ (ts : List TypeId) (vs : List Value) (ds : List (DataW H)) (ps : List MemPlace),
    DataW.TrodAll enc P W base spare held ts vs ds ps → ds.length = ts.length
  | [], vs, ds, ps, h => by
    obtain ⟨rfl, rfl, rfl⟩ := trodAll_nil h
    rfl
  | t :: ts, vs, ds, ps, h => by
    obtain ⟨v, vs', d, ds', p, q, rfl, rfl, rfl, h1, h2⟩ := trodAll_cons h
    simp [trodAll_length ts vs' ds' q h2]

/-- A law's row, out of its call. -/
theorem lift_law {C : Checked} {f : FuncId} {fn : Func} {s : ChangeSpec} {conds : List PathCond} {rt : TypeId} {os : Os} {H : Type} {enc : TypeId × Value → H} (own : ownKnob C.prog.godebug = none) (started : os.Started) (hinit : C.prog.inits.idxOf? f = none) (hf : C.prog.funcs[f]? = some fn)
    (wit : ∃ (w : World) (tape : Tape) (i : Input), w.os = os ∧ World.Shaped C.prog (w.forCall tape i) ∧ i.vars = [] ∧ Input.okWide C.prog (w.forCall tape i) Reach.any w.heap.size f i ∧ ChangeSpec.pre6 enc C.prog fn s conds false (w.forCall tape i).memory i.args ∧ ({} : Assume).holds C.prog (lone (Frame.enter C.prog f i.args CallKind.normal) [] (w.forCall tape i)))
    (laid : laidOutB C.prog = true) (hpar : fn.params.toList.all (fun t => C.prog.readableRec t && decide (t < C.prog.types.size)) = true) (hvars : s.vars = [])
    (hfn : ∀ (ds : List (DataW H)), ds.length = fn.params.size → (s.fn H ds).results = [.lit (.bool true)] ∧ (s.fn H ds).args = ds ∧ (s.fn H ds).vars = [])
    (hres : fn.resultTypes.toList = [rt]) (hrt : C.prog.underlying rt = some .bool)
    (h : ∀ (W : World) (base : Nat) (args : Array Value) (ds : List (DataW H)) (ps : List MemPlace), (∀ (j : Nat) t v, fn.params[j]? = some t → args[j]? = some v → Value.okWide C.prog W .any base t v) →
      DataW.TrodAll enc C.prog W 0 (fun _ => true) true fn.params.toList args.toList ds ps → ((DataW.weightsEach C.prog (fn.params.toList ++ s.plain.varTypes C.prog) (ds ++ [])).all (· ≤ reachBytes)) = true →
      Calls C.prog f args W fun e W' => e = .returned (.bool true) ∧ Below W.heap.size W W') :
    ReturnsInHanded {} C os f .any (ChangeSpec.pre6 enc C.prog fn s conds false) (ChangeSpec.post enc C.prog fn s false true false false) := by
  refine returnsInHanded_of_change_sized (C := C) own started hinit hf wit ?_
  intro W base args ds gs before hval hW hcnd hsz _
  have hW' := hW
  obtain ⟨p, q, hA, hV, rfl, hfz, hnd⟩ := hW
  rw [hvars] at hV
  obtain ⟨rfl, rfl⟩ := trodVars_none hV
  refine (h W base args ds p hval hA hsz).mono ?_
  rintro e W' ⟨rfl, bel⟩
  have hlen : (ds ++ []).length = fn.params.size := by
    have := trodAll_length _ _ _ _ hA
    simpa using this
  obtain ⟨h1, h2, h3⟩ := hfn _ hlen
  have hsize : fn.resultTypes.size = 1 := by rw [← Array.length_toList, hres]; rfl
  refine ⟨_, rfl, ds, [], _, [], p, [], hW', ?_, ?_, ?_, bel.frame _, fun h => by cases h⟩
  · rw [h1, hres, hsize]
    exact trodAll_mk1 (shut_bool hrt _)
  · rw [h2, List.append_nil]
    refine trodAll_below laid bel _ _ _ _ (fun t ht => ?_) hA
    have := List.all_eq_true.1 hpar t ht
    simp only [Bool.and_eq_true, decide_eq_true_eq] at this
    exact this
  · rw [h3, hvars]
    first | rfl | exact ⟨rfl, rfl⟩

end Go.AX
