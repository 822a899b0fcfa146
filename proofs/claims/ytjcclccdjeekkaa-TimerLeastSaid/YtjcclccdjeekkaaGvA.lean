/- Parts: RvA RvB RvC RvD. -/
import Derived.RangeFuncBox
import Derived.RangeFuncLeaves
import Derived.RangeFuncNested
import Derived.Shelf.Abstract
import Derived.WalkKit
import Derived.OwnWalkIn
import Derived.TacticsInMore
import Derived.LoopNIn
import Derived.LoopIn
import Derived.Test.YtjcclccdjeekkaaProg
import Derived.Test.YtjcclccdjeekkaaGeB

section
/- A range over a function: slices.Values's iterator over a slice of pairs of two integers, at this seat. -/
set_option linter.unusedSimpArgs false
set_option linter.unusedVariables false
namespace Go.Proofs
open Go.RowKit Go.Shelf
attribute [local go_sem] Oper.semAt_some

/-- What has come of f behind k rounds. -/
def uptoX {α : Type} (f : Nat → α) (k : Nat) : List α := (List.range k).map f
theorem uptoX_succ {α : Type} (f : Nat → α) (k : Nat) : uptoX f (k + 1) = uptoX f k ++ [f k] := by simp [uptoX, List.range_succ]
theorem uptoX_len {α : Type} (f : Nat → α) (k : Nat) : (uptoX f k).length = k := by simp [uptoX]

/-- An element: two integers. -/
def encP (x : Int × Int) : Value := .agg #[.int .i64 x.1, .int .i64 x.2]

theorem blk_add {a : Addr} {i : Nat} : (a.add i).block = a.block := by
  unfold Addr.add; split <;> rfl

set_option maxRecDepth 100000 in
set_option maxHeartbeats 2000000 in
theorem values1_in (F : Fence) (n : Nat) (h7 : F.fn 44) (hro : F.round = none) (hn : 1 ≤ n) (l n₀ : Nat) (A0 Bs : Addr) (len cap : Nat) (f : Nat → Int × Int) (hreach : len * 8 ≤ 140737488351232) (hb : 0 < len → A0.block < n₀) (J Jx : List (Int × Int) → World → Prop)
    (hY : ∀ pre x W, J pre W → pre.length < len → YieldAt F (n - 1) Try.prog l #[encP x] W fun e W' =>
      (e = .returned (.bool true) ∧ J (pre ++ [x]) W' ∧ Below n₀ W W') ∨ (e = .returned (.bool false) ∧ Jx (pre ++ [x]) W'))
    (hJ : ∀ pre W W', J pre W → W.grownBy W' none → J pre W')
    (W : World) (hn0 : n₀ ≤ W.heap.size) (hBs : W.cell? Bs = some (.slice (some A0) len cap))
    (hc : ∀ j, j < len → W.cell? (A0.add (j * 2)) = some (.int .i64 (f j).1) ∧ W.cell? ((A0.add (j * 2)).add 1) = some (.int .i64 (f j).2)) (h0 : J [] W) :
    CallsIn F n Try.prog 44 #[.func (.yield l) #[] #[], .pointer (some Bs)] W fun e W' => (∃ v, e = .returned v) ∧
      ((∃ ys, ys = uptoX f len ∧ J ys W') ∨ (∃ pre, (∃ k, k ≤ len ∧ pre = uptoX f k) ∧ Jx pre W')) := by
  refine callsIn_of_wp Try.func44 rfl h7 ?_ hro
  simp only [Try.ntmps44, List.size_toArray, List.length_cons, List.length_nil, Nat.reduceAdd, Nat.reduceSub, Array.replicate_succ, Array.replicate_zero, List.push_toArray, List.append_toArray, List.nil_append, List.cons_append]
  gi_wp2
  gi_loopw [7] (fun i wr => ∃ k : Nat, k ≤ len ∧ i = .int .i64 k ∧ J (uptoX f k) wr ∧ Below n₀ W wr)
    (fun i _ => len - (intOf i).toNat)
  case atStart => exact ⟨0, Nat.zero_le _, rfl, h0, Below.refl _ _⟩
  case round =>
    obtain ⟨k, hk, rfl, hJs, hnx⟩ := hrel
    by_cases hlt : k < len
    · obtain ⟨hc0, hc1⟩ := hc k hlt
      have hc0' := (hnx.cell (p := A0.add (k * 2)) (by rw [blk_add]; exact hb (by omega))).trans hc0
      have hc1' := (hnx.cell (p := (A0.add (k * 2)).add 1) (by rw [blk_add, blk_add]; exact hb (by omega))).trans hc1
      rw [show (A0.add (k * 2)).add 1 = { block := (A0.add (k * 2)).block, off := (A0.add (k * 2)).off + 1 } from rfl] at hc1'
      have hJx := hJ (uptoX f k) wr (wr.alloc (.cells #[.int .i64 (f k).1, .int .i64 (f k).2] 24)) hJs (World.grownBy_alloc wr _ none)
      obtain ⟨fn, tmps, assign, body, hy, hR⟩ := hY _ (f k) _ hJx (by rw [uptoX_len]; exact hlt)
      unfold encP at hy
      gi_wp2
      refine hR.mono ?_
      rintro e W3 (⟨rfl, hJ3, hk3⟩ | ⟨rfl, hJx3⟩)
      · gi_wp2
        go_roundw
        case rel => exact ⟨k + 1, by omega, by simp, by rw [uptoX_succ]; exact hJ3, hnx.trans (((Below.refl _ wr).alloc (Nat.le_trans hn0 hnx.size) _).trans hk3)⟩
        case measure => simp [intOf]; omega
      · gi_wp2
        refine bodyPost_ret (results_none rfl _ _ _) rfl ?_
        exact ⟨⟨_, rfl⟩, .inr ⟨_, ⟨k + 1, by omega, (uptoX_succ _ _).symm⟩, hJx3⟩⟩
    · obtain rfl : k = len := by omega
      gi_wp2
      go_end0
      exact ⟨⟨_, rfl⟩, .inl ⟨_, rfl, hJs⟩⟩

set_option maxRecDepth 100000 in
set_option maxHeartbeats 1000000 in
theorem values1_nil_in (F : Fence) (n : Nat) (h7 : F.fn 44) (hro : F.round = none) (l : Nat) (Bs : Addr) (J : List (Int × Int) → World → Prop) (W : World) (hBs : W.cell? Bs = some (.slice none 0 0)) (h0 : J [] W) :
    CallsIn F n Try.prog 44 #[.func (.yield l) #[] #[], .pointer (some Bs)] W fun e W' => (∃ v, e = .returned v) ∧ J [] W' := by
  refine callsIn_of_wp Try.func44 rfl h7 ?_ hro
  simp only [Try.ntmps44, List.size_toArray, List.length_cons, List.length_nil, Nat.reduceAdd, Nat.reduceSub, Array.replicate_succ, Array.replicate_zero, List.push_toArray, List.append_toArray, List.nil_append, List.cons_append]
  gi_wp2
  gi_loopw [7] (fun i wr => i = .int .i64 0 ∧ J [] wr) (fun _ _ => 0)
  case atStart => exact ⟨rfl, h0⟩
  case round =>
    obtain ⟨rfl, hJs⟩ := hrel
    gi_wp2
    go_end0
    exact ⟨⟨_, rfl⟩, hJs⟩

/-- The slice value sv holds f 0 .. f (len - 1), in a block below n₀; or it is nil. -/
def PairsAt (n₀ : Nat) (W : World) (sv : Value) (len : Nat) (f : Nat → Int × Int) : Prop :=
  (sv = .slice none 0 0 ∧ len = 0) ∨ ∃ A0 cap, sv = .slice (some A0) len cap ∧ (0 < len → A0.block < n₀) ∧ ∀ j, j < len → W.cell? (A0.add (j * 2)) = some (.int .i64 (f j).1) ∧ W.cell? ((A0.add (j * 2)).add 1) = some (.int .i64 (f j).2)
theorem PairsAt.below {n₀ : Nat} {A B : World} (h : Below n₀ A B) {sv : Value} {len : Nat} {f : Nat → Int × Int} : PairsAt n₀ A sv len f → PairsAt n₀ B sv len f
  | .inl e => .inl e
  | .inr ⟨A0, cap, e, hb, hc⟩ => .inr ⟨A0, cap, e, hb, fun j hj => ⟨(h.cell (p := A0.add (j * 2)) (by rw [blk_add]; exact hb (by omega))).trans (hc j hj).1, (h.cell (p := (A0.add (j * 2)).add 1) (by rw [blk_add, blk_add]; exact hb (by omega))).trans (hc j hj).2⟩⟩

theorem values_stops (F : Fence) (n : Nat) (h7 : F.fn 44) (hro : F.round = none) (hn : 1 ≤ n) (n₀ : Nat) (Bs : Addr) (sv : Value) (len : Nat) (f : Nat → Int × Int) (hreach : len * 8 ≤ 140737488351232) (w : World) (hBs : Bs.block < w.heap.size) (hn₀ : n₀ ≤ w.heap.size)
    (hc : w.cell? Bs = some sv) (hI : PairsAt n₀ w sv len f) :
    SeqStopsK F n Try.prog 44 #[.pointer (some Bs)] (fun x : Int × Int => #[encP x]) (Below n₀) (fun ys => ys = uptoX f len) (fun _ => True) len w := fun l J Jx W hW hJ _ hY h0 => by
  have hc' := (hW.cell (p := Bs) hBs).trans hc
  rcases hI.below (hW.mono hn₀) with ⟨rfl, rfl⟩ | ⟨A0, cap, rfl, hb, hcs⟩
  · exact (values1_nil_in F n h7 hro l Bs J W hc' h0).mono fun e W' ⟨he, hj⟩ => ⟨he, .inl ⟨_, by simp [uptoX], hj⟩⟩
  · refine (values1_in F n h7 hro hn l n₀ A0 Bs len cap f hreach hb J Jx hY (fun s X Y hs hg => hJ s X Y none hs hg (fun r e => by cases e)) W (Nat.le_trans hn₀ hW.size) hc' hcs h0).mono ?_
    rintro e W' ⟨he, ⟨ys, rfl, hj⟩ | ⟨pre, ⟨k, hk, rfl⟩, hj⟩⟩
    · exact ⟨he, .inl ⟨_, rfl, hj⟩⟩
    · exact ⟨he, .inr ⟨_, trivial, hj⟩⟩
end Go.Proofs
end

section
/- A range over a function: slices.AppendSeq behind slices.Values, at this seat. -/
set_option linter.unusedSimpArgs false
set_option linter.unusedVariables false
namespace Go.Proofs
open Go.RowKit Go.Shelf
attribute [local go_sem] Oper.semAt_some

theorem info24 : (Try.prog.info? 24).map (fun i => (i.zero, i.size, i.bytes)) = some (some (.agg #[.int .i64 0, .int .i64 0]), 2, 16) := by kernel_rfl

def flatP (l : List (Int × Int)) : List Value := l.flatMap fun x => [.int .i64 x.1, .int .i64 x.2]

theorem cells_two (W : World) (u v : Value) (t : TypeId) : ∀ j y, ([u, v] : List Value)[j]? = some y → (W.alloc (.cells #[u, v] t)).cell? ((⟨W.heap.size, 0, none⟩ : Addr).add j) = some y
  | 0, y, h => by
    cases h
    have h := World.alloc_heap_new W (.cells #[u, v] t)
    unfold World.cell?
    rw [show ((⟨W.heap.size, 0, none⟩ : Addr).add 0) = ⟨W.heap.size, 0, none⟩ from rfl]
    dsimp only
    rw [h]; rfl
  | 1, y, h => by
    cases h
    have h := World.alloc_heap_new W (.cells #[u, v] t)
    unfold World.cell?
    rw [show ((⟨W.heap.size, 0, none⟩ : Addr).add 1) = ⟨W.heap.size, 0 + 1, none⟩ from rfl]
    dsimp only
    rw [h]; rfl
  | j + 2, y, h => by simp at h
/-- Behind the assignment: a variable of the round's own holds the element. -/
def AxP (B : Nat) (sv : Value) (x : Int × Int) (a : Act) (W : World) : Prop := ∃ b, B < b ∧ W.heap[b]? = some (.cells #[.int .i64 x.1, .int .i64 x.2] 24 (0, 0)) ∧
  a = { tmps := #[.slice none 0 0, sv, .pointer (some ⟨B, 0, none⟩), undef, .slice none 0 0, .pointer (some ⟨b, 0, none⟩), sv, encP x, undef, undef, undef, undef, undef], defers := [] }
theorem AxP_own (B C : Nat) (sv : Value) : ∀ x a', OwnFrom C (fun (_ : Unit) W => AxP B sv x a' W) := by
  rintro x a' s X Y row ⟨b, h1, h2, h3⟩ hg hrow
  refine ⟨b, h1, (hg.block b (Array.getElem?_eq_some_iff.1 h2).1 fun e => ?_).trans h2, h3⟩
  obtain ⟨_, o, ho, hc⟩ := hrow b e.symm
  rw [h2] at ho; cases ho; cases hc

set_option maxRecDepth 100000 in
set_option maxHeartbeats 2000000 in
theorem appendSeq_in (F : Fence) (n : Nat) (h48 : F.fn 48) (h44 : F.fn 44) (hro : F.round = none) (hn : 3 ≤ n) (Bs : Addr) (sv : Value) (len : Nat) (f : Nat → Int × Int) (hlen : len ≤ 1000000) (w : World) (hBs : Bs.block < w.heap.size)
    (hc : w.cell? Bs = some sv) (hI : PairsAt w.heap.size w sv len f) :
    CallsIn F n Try.prog 48 #[.slice none 0 0, .func (.func 44) #[] #[.pointer (some Bs)]] w fun e W' => ∃ v, e = .returned v ∧ W'.ownsRow w.heap.size 24 2 v len (flatP (uptoX f len)) ∧ (v = .slice none 0 0 ↔ len = 0) ∧ Below w.heap.size w W' := by
  have h1 : 1 ≤ n := by omega
  obtain ⟨i0, hi, hz0, hz1, hz2⟩ := info_parts info24
  refine callsIn_of_wp_marks Try.func48 rfl h48 ?_ hro
  simp only [Try.ntmps48, List.size_toArray, List.length_cons, List.length_nil, Nat.reduceAdd, Nat.reduceSub, Array.replicate_succ, Array.replicate_zero, List.push_toArray, List.append_toArray, List.nil_append, List.cons_append]
  gi_wp2
  have bO := Boxed.new w 22 (.slice none 0 0)
  have hB0 : Below w.heap.size w (w.alloc (.cells #[.slice none 0 0] 22)) := (Below.refl _ w).alloc (Nat.le_refl _) _
  refine wpIn_rangeFunc_ownH hro h1 (gf := 44) (lb := #[.pointer (some Bs)]) rfl h44 (enters_of Try.func44 (by kernel_rfl) rfl)
    (values_stops F (n - 1) h44 hro (by omega) w.heap.size Bs sv len f (by omega) _ (by simp; omega) (by simp) ((hB0.cell (p := Bs) hBs).trans hc) (hI.below hB0)) belowK_t (belowK_b (by simp)) (Below.refl _ _) (fun _ => rfl)
    (fun pre W => (∃ v, Boxed W w.heap.size 22 v ∧ W.ownsRow w.heap.size 24 2 v pre.length (flatP pre) ∧ (v = .slice none 0 0 ↔ pre.length = 0)) ∧ Below w.heap.size w W)
    (fun _ _ _ => False)
    (OwnFrom.and (Own.from ?own _) (ownFrom_below (Nat.le_refl _) (by simp)))
    (fun _ _ _ _ _ hs _ _ => hs)
    ⟨⟨_, bO, World.ownsRow_nil _ _ _ _, by simp⟩, hB0⟩
    (AxP w.heap.size (.func (.func 44) #[] #[.pointer (some Bs)])) (AxP_own _ _ _) ?assign ?body ?done ?stop
  case own =>
    rintro s X Y row ⟨v, hv, hr, hn⟩ hg hrow
    refine ⟨v, hv.kept hg (fun e' => ?_), hr.kept hg ?_, hn⟩
    · obtain ⟨o, ho, hc⟩ := hrow _ e'.symm
      rw [show X.heap[w.heap.size]? = _ from hv] at ho; cases ho; cases hc
    · rcases hr.2 with ⟨rfl, _⟩ | ⟨g, cap, cur, rfl, _, hgb, _⟩
      · exact .inl rfl
      · refine .inr fun e' => ?_
        obtain ⟨o, ho, hc⟩ := hrow g (by simpa [Value.ownBlock] using e'.symm)
        rw [hgb] at ho; cases ho; cases hc
  case assign =>
    rintro l pre x W K ⟨⟨v, hv, hrow, hnil⟩, hB⟩ hK
    unfold encP
    gi_wp2
    exact hK _ _ ((KeepsOthers.alloc _ _).from _) ((Below.refl _ W).alloc hB.size _) ⟨⟨v, hv.alloc _, hrow.alloc _, hnil⟩, hB.alloc hB.size _⟩ ⟨W.heap.size, hv.lt, World.alloc_heap_new W _, rfl⟩
  case body =>
    rintro l pre x a' W hl ⟨r, hr⟩ ⟨⟨v, hv, hrow, hnil⟩, hB⟩ ⟨b, hb1, hb2, rfl⟩ hlt
    have hc := hv.cell
    have hx0 : W.cell? ⟨b, 0, none⟩ = some (.int .i64 x.1) := by simp [World.cell?, hb2]
    have hx1 : W.cell? ⟨b, 1, none⟩ = some (.int .i64 x.2) := by simp [World.cell?, hb2]
    unfold encP
    gi_wp2_with (gi_at_builtin; refine wpListIn_append_own _ rfl _ _ 22 rfl w.heap.size 24 i0 (.agg #[.int .i64 0, .int .i64 0]) 2 16 Try.underlying22 hi hz0 hz1 hz2 rfl (by decide) _ _ _ rfl (hrow.alloc _) ⟨W.heap.size, 0, none⟩ 1 1 [.int .i64 x.1, .int .i64 x.2] rfl rfl (cells_two _ _ _ _) (by simp [Value.oneCell']) (by unfold maxLen; omega) (by omega) (by have := hB.size; simp; omega) ?_; intro v' w1 hown' hgrow _; obtain ⟨g', cap', rfl⟩ := ownsRow_succ hown'; obtain ⟨hv1, hv2, hr2, hk2, hb2⟩ := hv.appended (by decide) hrow hB.size (Nat.le_refl _) hown' hgrow; have hc1 := hv1.cell; have hf1 := hv1.frozen)
    exact ⟨hk2.from _, hb2, ⟨_, hv2, by simpa [flatP] using hr2, by simp⟩, hB.trans hb2⟩
  case done =>
    rintro D ys W hD rfl ⟨⟨v, hv, hrow, hnil⟩, hB⟩ hK
    have hc := hv.cell
    gi_wp2
    refine ⟨by simp, .inl ⟨_, _, rfl, run_takeDeferred hK, ?_⟩⟩
    refine ⟨_, results_tmp rfl _ _ _, v, rfl, ?_, by rw [hnil, uptoX_len], hB.trans (belowK_b (w := w) (Nat.le_refl _) W D _ _ (by simp at hD; omega) hK rfl rfl)⟩
    rw [uptoX_len] at hrow
    exact ownsRow_putObj hrow _ hK rfl
  case stop =>
    rintro D c pre W _ _ h _
    exact h.elim
end Go.Proofs
end

section
/- What lies behind a call that lays new blocks alone, over the abstract heap. -/
set_option linter.unusedSimpArgs false
set_option linter.unusedVariables false
namespace Go.AX
open Go Go.RowKit

theorem below_hold {w w' : World} (h : Below w.heap.size w w') {k : Nat} {o : Obj} (hk : w.heap[k]? = some o) : w'.heap[k]? = some o := (h.block k (Array.getElem?_eq_some_iff.1 hk).1).trans hk
theorem Sim.below {base : Nat} {D : Nat → Prop} {j : Inj} {H : AH} {w w' : World} (S : Sim base D j H w) (h : Below w.heap.size w w') : Sim base D j H w' := by
  refine ⟨S.lt, S.wf, Nat.le_trans S.size h.size, fun b l hb hg => ?_, fun b l hb hg => ?_, fun b l hb hg => ?_, S.inj⟩
  · obtain ⟨⟨cs, t, fr, h1, h2⟩, h3, h4⟩ := S.ro b l hb hg
    exact ⟨⟨cs, t, fr, below_hold h h1, h2⟩, h3, h4⟩
  · obtain ⟨⟨cs, t, fr, h1, h2⟩, h3, h4⟩ := S.rw b l hb hg
    exact ⟨⟨cs, t, fr, below_hold h h1, h2⟩, h3, h4⟩
  · obtain ⟨⟨en, c, h1, h2⟩, h3, h4⟩ := S.mp b l hb hg
    exact ⟨⟨en, c, below_hold h h1, h2⟩, h3, h4⟩
/-- New blocks, and nothing told of them. -/
theorem Post.below {base : Nat} {D : Nat → Prop} {j : Inj} {H : AH} {w w' : World} (S : Sim base D j H w) (h : Below w.heap.size w w') : Post base D j H w H w' j :=
  ⟨Evo.refl H, fun _ _ => rfl, (S.below h).iffD fun _ => Dnew.self, ⟨h.os, h.tape, h.output, h.size, fun k hk _ => h.block k hk⟩, fun b h1 h2 _ => by omega⟩
/-- New blocks, and one of them told. -/
theorem Post.adopt {base : Nat} {D : Nat → Prop} {j : Inj} {H : AH} {w w' : World} (S0 : Sim base D j H w) (h : Below w.heap.size w w') {l : List AV} (hl : AV.okL D l) (hs : AV.scL l = true)
    {g : Nat} {cs : Array Value} {t : TypeId} (hg0 : w.heap.size ≤ g) (hgc : w'.heap[g]? = some (.cells cs t (0, 0))) (hcs : ∀ (i : Nat) v, (AV.conL j l)[i]? = some v → cs[i]? = some v) (hsz : l.length ≤ cs.size) :
    Post base D j H w (H.al l) w' (j.put H.nx (.new g cs.size)) := by
  have S := S0.below h
  have hold : ∀ b, b ≠ H.nx → (j.put H.nx (.new g cs.size)) b = j b := fun b hb => by simp only [Inj.put]; rw [if_neg hb]
  have hrow : ∀ {b : Nat}, D b → H.g b ≠ .no → (j b).k < g := fun hb hn => Nat.lt_of_lt_of_le (S0.row_lt hb hn) hg0
  have hD : ∀ b, Dnew D H (H.al l) b → b = H.nx ∨ (D b ∧ b < H.nx) := by
    rintro b (hb | ⟨h1, h2⟩)
    · exact .inr ⟨hb, S.lt b hb⟩
    · simp only [AH.al] at h2; exact .inl (by omega)
  refine ⟨Evo.al H l, fun b hb => hold b (by have := S.lt b hb; omega), ⟨?_, ?_, ?_, ?_, ?_, ?_, ?_⟩, ⟨h.os, h.tape, h.output, h.size, fun k hk _ => h.block k hk⟩, ?_⟩
  · intro b hb
    rcases hD b hb with rfl | ⟨_, h⟩ <;> simp only [AH.al] <;> omega
  · intro b hb
    simp only [AH.al] at hb ⊢
    rw [if_neg (by omega)]
    exact S.wf b (by omega)
  · exact S.size
  · intro b l' hb hg
    rcases hD b hb with rfl | ⟨hb', h⟩
    · simp [AH.al] at hg
    · simp only [AH.al] at hg
      rw [if_neg (by omega)] at hg
      obtain ⟨h2, h3, h4⟩ := S.ro b l' hb' hg
      rw [conL_put S.lt _ h3, hold b (by omega)]
      exact ⟨h2, okL_Dnew h3, h4⟩
  · intro b l' hb hg
    rcases hD b hb with rfl | ⟨hb', h⟩
    · simp only [AH.al, if_true, Blk.rw.injEq] at hg
      subst hg
      rw [conL_put S.lt _ hl]
      refine ⟨⟨cs, t, (0, 0), ?_, hcs, ?_, ?_, .inl rfl⟩, okL_Dnew hl, hs, ?_⟩
      · simpa [Inj.put] using hgc
      · simp [Inj.put]
      · simp [Inj.put, conL_length]; exact hsz
      · simp [Inj.put]; exact Nat.le_trans S0.size hg0
    · simp only [AH.al] at hg
      rw [if_neg (by omega)] at hg
      obtain ⟨h2, h3, h4, h8⟩ := S.rw b l' hb' hg
      rw [conL_put S.lt _ h3, hold b (by omega)]
      exact ⟨h2, okL_Dnew h3, h4, h8⟩
  · intro b l' hb hg
    rcases hD b hb with rfl | ⟨hb', h⟩
    · simp [AH.al] at hg
    · simp only [AH.al] at hg
      rw [if_neg (by omega)] at hg
      obtain ⟨h2, h3, h4⟩ := S.mp b l' hb' hg
      rw [hold b (by omega), conM_congr (j := j) (fun x hx => hold x (by have := S.lt x hx; omega)) h3]
      exact ⟨h2, okM_mono (fun _ => .inl) h3, h4⟩
  · intro b b' hb hb' hg hg' hk
    rcases hD b hb with rfl | ⟨hb1, h⟩
    · rcases hD b' hb' with rfl | ⟨hb2, h'⟩
      · rfl
      · exfalso
        simp only [AH.al] at hg'
        rw [if_neg (by omega)] at hg'
        have h3 := hrow hb2 hg'
        simp only [Inj.put, if_true] at hk
        rw [if_neg (by omega)] at hk
        omega
    · simp only [AH.al] at hg
      rw [if_neg (by omega)] at hg
      rcases hD b' hb' with rfl | ⟨hb2, h'⟩
      · exfalso
        have h3 := hrow hb1 (fun e => by rw [e] at hg; simp [Blk.own] at hg)
        simp only [Inj.put, if_true] at hk
        rw [if_neg (by omega)] at hk
        omega
      · simp only [AH.al] at hg'
        rw [if_neg (by omega)] at hg'
        simp only [Inj.put] at hk
        rw [if_neg (by omega), if_neg (by omega)] at hk
        exact S.inj b b' hb1 hb2 hg hg' hk
  · intro b h1 h2 _
    simp only [AH.al] at h2
    obtain rfl : b = H.nx := by omega
    exact .inl (by simp [Inj.put]; exact hg0)
end Go.AX
end

section
/- slices.AppendSeq(nil, slices.Values(l)): what it yields. -/
set_option linter.unusedSimpArgs false
set_option linter.unusedVariables false
namespace Go.AX
open Go Go.RowKit Go.Proofs

abbrev PT : Ty := .pr (.int .i64) (.int .i64)
def flatA : List (Int × Int) → List AV
  | [] => []
  | x :: r => .it .i64 x.1 :: .it .i64 x.2 :: flatA r
theorem flatA_len : ∀ {l : List (Int × Int)}, (flatA l).length = l.length * 2
  | [] => rfl
  | x :: r => by simp only [flatA, List.length_cons, flatA_len (l := r)]; omega
theorem flatA_con {j : Inj} : ∀ {l : List (Int × Int)}, AV.conL j (flatA l) = flatP l
  | [] => rfl
  | x :: r => by
    have := flatA_con (j := j) (l := r)
    simp only [flatP] at this
    simp only [flatA, AV.conL, AV.con, flatP, List.flatMap_cons, this]
    rfl
theorem flatA_ok {D : Nat → Prop} : ∀ {l : List (Int × Int)}, AV.okL D (flatA l)
  | [] => by simp only [flatA, AV.okL]
  | x :: r => ⟨trivial, trivial, flatA_ok⟩
theorem flatA_sc : ∀ {l : List (Int × Int)}, AV.scL (flatA l) = true
  | [] => rfl
  | x :: r => by
    have := flatA_sc (l := r)
    simp only [AV.scL] at this
    simp only [flatA, AV.scL, List.all_cons, AV.sc, this, Bool.and_self]
theorem flatA_get {l : List (Int × Int)} : ∀ {k : Nat}, k < l.length → (flatA l)[k * 2]? = some (.it .i64 (l.getD k (0, 0)).1) ∧ (flatA l)[k * 2 + 1]? = some (.it .i64 (l.getD k (0, 0)).2) := by
  induction l with
  | nil => intro k h; simp at h
  | cons x r ih =>
    intro k h
    cases k with
    | zero => exact ⟨rfl, rfl⟩
    | succ k =>
      have := ih (k := k) (by simpa using h)
      rw [show (k + 1) * 2 = k * 2 + 1 + 1 by omega]
      simp only [flatA, List.getElem?_cons_succ, List.getD_cons_succ]
      exact this
theorem RcE_flat {F : Nat → Prop} {H : AH} : ∀ {l : List (Int × Int)} {cs : List AV}, RcE F H 2 (Ty.pl PT l) cs → cs = flatA l
  | [], cs, h => h
  | x :: r, cs, h => by
    obtain ⟨a, c, cs', h1, h2, h3, rfl, h5⟩ := h
    obtain ⟨l', rfl, u1, m1, rfl, e1, u2, m2, rfl, e2, e3⟩ := h1
    cases h2
    cases e1; cases e2; cases e3
    rw [RcE_flat h5]
    rfl
theorem RcE_flat' {F : Nat → Prop} {H : AH} : ∀ {l : List (Int × Int)}, RcE F H 2 (Ty.pl PT l) (flatA l)
  | [] => rfl
  | x :: r => ⟨.ag [.it .i64 x.1, .it .i64 x.2], [.it .i64 x.1, .it .i64 x.2], flatA r, ⟨_, rfl, _, _, rfl, rfl, _, _, rfl, rfl, rfl⟩, rfl, rfl, rfl, RcE_flat'⟩
theorem uptoX_get (l : List (Int × Int)) : uptoX (fun k => l.getD k (0, 0)) l.length = l := by
  apply List.ext_getElem
  · simp [uptoX]
  · intro i h1 h2
    simp [uptoX, h2]

/-- What a slice that stays holds, in the world. -/
theorem pairs_at {base : Nat} {D : Nat → Prop} {j : Inj} {H : AH} {w : World} (S : Sim base D j H w) {F : Nat → Prop} {wk : Nat} {l : List (Int × Int)} {a : AV} (hr : Rc F H (.vs wk 2 (Ty.pl PT l)) a) (ha : a.ok D) :
    PairsAt w.heap.size w (a.con j) l.length (fun k => l.getD k (0, 0)) := by
  obtain ⟨⟨cs, h1, hsF, h3⟩, hg1, hg2⟩ := hr
  clear hsF hg1 hg2
  have hcs := RcE_flat h3
  subst hcs
  rw [List.length_map] at h1
  have hlen := flatA_len (l := l)
  have cell : ∀ {b o : Nat}, D b → (∀ (i : Nat) v, (flatA l)[i]? = some v → (H.g b).cells[o + i]? = some v) → ∀ k, k < l.length →
      w.cell? ((j b).at (o + k * 2)) = some (.int .i64 (l.getD k (0, 0)).1) ∧ w.cell? ((j b).at (o + k * 2 + 1)) = some (.int .i64 (l.getD k (0, 0)).2) := by
    intro b o hb hc k hk
    obtain ⟨g1, g2⟩ := flatA_get hk
    exact ⟨(S.cell hb (hc _ _ g1)).1, by have := (S.cell hb (hc _ _ g2)).1; rwa [← Nat.add_assoc] at this⟩
  have hno : ∀ {b o : Nat}, D b → (∀ (i : Nat) v, (flatA l)[i]? = some v → (H.g b).cells[o + i]? = some v) → 0 < l.length → (j b).k < w.heap.size := by
    intro b o hb hc h0
    refine S.row_lt hb fun e => ?_
    have := hc _ _ (flatA_get h0).1
    rw [e] at this
    simp [Blk.cells] at this
  have blk_at : ∀ {c : CB} {o : Nat}, (c.at o).block = c.k := fun {c o} => by unfold CB.at; rw [blk_add]
  generalize hn : l.length = n at h1
  generalize hfl : flatA l = fl at h1
  cases h1 with
  | sn => exact .inl ⟨rfl, rfl⟩
  | sl g1 g2 g3 g4 g5 =>
    rename_i b o cp
    subst hfl
    refine .inr ⟨(j b).at o, cp, rfl, fun h0 => by rw [blk_at]; exact hno ha g2 (by omega), fun k hk => ?_⟩
    rw [at_add, at_add]
    exact cell ha g2 k (by omega)
  | sg g1 g2 g3 g4 g5 g6 =>
    rename_i b o q
    subst hfl
    cases hb : H.g b with
    | no => rw [hb] at g4; simp [Blk.isRw] at g4
    | ro l => rw [hb] at g4; simp [Blk.isRw] at g4
    | mp l => rw [hb] at g4; simp [Blk.isRw] at g4
    | rw cl =>
      obtain ⟨⟨cs', t, fr, k1, k2, k3, k4, _⟩, _, _, _, k5, k6⟩ := S.rw b cl ha hb
      rw [hb] at g3
      simp only [Blk.cells] at g3
      rw [conL_length] at k4
      rw [hlen] at g3
      refine .inr ⟨⟨(j b).k, if ((j b).e - o) / 2 = 0 then q else o, none⟩, ((j b).e - o) / 2, rfl, fun h0 => hno ha g2 (by omega), fun k hk => ?_⟩
      rw [if_neg (by omega), show (⟨(j b).k, o, none⟩ : Addr) = (j b).at o from (at_own k5 k6).symm, at_add, at_add]
      exact cell ha g2 k (by omega)

def sgAppendSeq (g : FuncId) : Sig := ⟨⟨[(0, .sn), (1, .fn g [] [.pe [.vs 0 PT] 0])], []⟩, [⟨[(0, .gr 0)], [.gs true PT]⟩]⟩
def appendSeqG (l : List (Int × Int)) : Option (List (Int × Int)) := bif decide (l.length ≤ 1000000) then some l else none
theorem appendSeq_ok {P : Program} {f g : FuncId} {tE : TypeId} (hb : bdB P f = true)
    (hc : ∀ (w : World) (Bs : Addr) (sv : Value) (len : Nat) (fF : Nat → Int × Int), len ≤ 1000000 → Bs.block < w.heap.size → w.cell? Bs = some sv → PairsAt w.heap.size w sv len fF →
      Calls P f #[.slice none 0 0, .func (.func g) #[] #[.pointer (some Bs)]] w fun e W' => ∃ v, e = .returned v ∧ W'.ownsRow w.heap.size tE 2 v len (flatP (uptoX fF len)) ∧ (v = .slice none 0 0 ↔ len = 0) ∧ Below w.heap.size w W') :
    FnOK P f (sgAppendSeq g) appendSeqG := by
  refine ⟨Bd_of hb, fun (l : List (Int × Int)) (y : List (Int × Int)) hy => ?_⟩
  replace hy := bif_some hy
  obtain ⟨h1, h2⟩ := hy
  cases h2
  have h1 := of_decide_eq_true h1
  show PCall P f [] [.sn, .fn (.func g) [] [.pe [.vs 0 2 (Ty.pl PT l)] 0]] [.gs true 2 (Ty.pl PT l)] (.gr 0) []
  intro L H avs hR ha
  obtain ⟨a1, m1, rfl, rfl, a2, m2, rfl, ⟨p', c', rfl, rfl, a3, m3, rfl, ⟨B, q, cs, rfl, hF, hRd, ⟨c, m4, rfl, hcv, rfl⟩⟩, rfl⟩, rfl⟩ := ha
  have hcell : (H.g B).cells[q]? = some c := hRd.1 0 c rfl
  have real : ∀ base D j w, Sim base D j H w → D B → Calls P f #[.slice none 0 0, .func (.func g) #[] #[.pointer (some ((j B).at q))]] w fun e W' => ∃ v, e = .returned v ∧ W'.ownsRow w.heap.size tE 2 v l.length (flatP l) ∧ (v = .slice none 0 0 ↔ l.length = 0) ∧ Below w.heap.size w W' := by
    intro base D j w S hD
    obtain ⟨k1, k2, _⟩ := S.cell hD hcell
    have := hc w ((j B).at q) (c.con j) l.length (fun k => l.getD k (0, 0)) h1 (World.block_lt_of_cell? w _ k1) k1 (pairs_at S hcv k2)
    rw [uptoX_get] at this
    exact this
  have hDB : ∀ {D : Nat → Prop}, AV.okL D [.sn, .fn (.func g) [] [.pt B (q + 0)]] → D B := fun h => h.2.1.2.1
  cases l with
  | nil =>
    refine ⟨.sn, H, ⟨1, fun _ => .sn, L.F⟩, fun base D j w S hok => ?_, ⟨⟨⟨Nat.le_refl _, fun _ h => h, fun _ _ => rfl⟩, by have := hR.n; simp at this; omega, fun b hb => by have := hR.n; simp at this; omega⟩, fun _ _ _ _ => rfl, fun X h => .inl h, fun X ⟨b, p, h1, h2, h3, h4⟩ => by cases h3⟩,
      ⟨rfl, hR.fl, hR.wf, fun b p hb => ?_, fun b b' p p' X hb hb' ho ho' hX => by cases hX⟩, ⟨Nat.lt_succ_self _, rfl, rfl⟩, fun _ _ _ => rfl⟩
    · refine (real base D j w S (hDB hok)).mono ?_
      rintro e w' ⟨v, rfl, h3, h4, h5⟩
      rw [h4.2 rfl]
      exact ⟨j, rfl, trivial, Post.below S h5⟩
    · cases b with
      | zero =>
        simp only [List.getElem?_cons_zero, Option.some.injEq] at hb; subst hb
        exact ⟨.inl ⟨Rc_snil, fun _ => rfl⟩, rfl⟩
      | succ b => simp at hb
  | cons x r =>
    generalize hl : x :: r = l at *
    have hpos : 0 < l.length := by rw [← hl]; simp
    have hwf : ∀ X, (H.al (flatA l)).nx ≤ X → (H.al (flatA l)).g X = .no := al_wf hR.wf
    have hkeep : Keep L H ⟨1, fun _ => .sg H.nx 0 0 l.length 2, L.F⟩ (H.al (flatA l)) := ⟨⟨Nat.le_succ _, fun _ h => h, fun X hX => al_old (hR.fl X hX)⟩, by have := hR.n; simp at this; omega, fun b hb => by have := hR.n; simp at this; omega⟩
    refine ⟨.sg H.nx 0 0 l.length 2, H.al (flatA l), ⟨1, fun _ => .sg H.nx 0 0 l.length 2, L.F⟩, fun base D j w S hok => ?_, ⟨hkeep, fun X hX _ _ => al_old hX, fun X h => .inl h, fun X ⟨b, p, h1, h2, h3, h4⟩ => by
        simp only [AV.bk, Option.some.injEq] at h3; subst h3; exact .inr (Nat.le_refl _)⟩,
      ⟨rfl, fun X hX => Nat.lt_succ_of_lt (hR.fl X hX), hwf, fun b p hb => ?_, fun b b' p p' X hb hb' ho ho' hX hX' hF => ?_⟩, ⟨Nat.lt_succ_self _, rfl, rfl⟩, fun X hX _ => al_old hX⟩
    · refine (real base D j w S (hDB hok)).mono ?_
      rintro e w' ⟨v, rfl, h3, h4, h5⟩
      obtain ⟨h6, h7 | ⟨gb, cap, cur, rfl, h7, h8, h9, h10, h11, h12⟩⟩ := h3
      · omega
      · refine ⟨j.put H.nx (.new gb cur.size), ?_, .inr ⟨Nat.le_refl _, Nat.lt_succ_self _⟩, Post.adopt S h5 flatA_ok flatA_sc h7 h8 (fun i v hv => ?_) (by rw [flatA_len]; omega)⟩
        · simp only [AEnd.con, AV.con, Inj.put, if_true, Nat.sub_zero, h11, Nat.mul_div_cancel _ (show 0 < 2 by omega)]
          simp
        · rw [flatA_con] at hv
          rw [← h12, List.getElem?_take] at hv
          split at hv
          · simpa using hv
          · cases hv
    · cases b with
      | zero =>
        simp only [List.getElem?_cons_zero, Option.some.injEq] at hb; subst hb
        exact ⟨.inr ⟨H.nx, fun hF => by have := hR.fl _ hF; omega, flatA l, [], Nat.lt_succ_self _, by rw [List.append_nil]; exact al_new, RcE_flat', .inl ⟨by rw [List.length_map], by decide⟩⟩, rfl⟩
      | succ b => simp at hb
    · cases b with
      | zero => cases b' with
        | zero => rfl
        | succ b' => simp at hb'
      | succ b => simp at hb
end Go.AX
end
