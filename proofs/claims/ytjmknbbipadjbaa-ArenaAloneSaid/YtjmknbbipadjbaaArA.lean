/- The arena, walked: its small functions. -/
import Derived.Test.YtjmknbbipadjbaaRfA
set_option linter.unusedSimpArgs false
set_option linter.unusedVariables false
set_option maxRecDepth 4000
namespace Go.AX
open Go

structure Rec where
  key : Int
  task : Int
  next : Int
  deriving DecidableEq, Inhabited
@[reducible] def pRec (r : Rec) : PV := .ag [.it .i64 r.key, .it .i64 r.task, .it .i64 r.next]
@[reducible] def pI (n : Int) : PV := .it .i64 n
abbrev Rec.emp (r : Rec) : Prop := r.key = -1 ∧ r.task = -1

theorem empty_pu (a b c : Int) : Pu Go.Proofs.Try.prog fn_arena_empty [.ag [.it .i64 a, .it .i64 b, .it .i64 c]] [] (.bo (decide (a = -1 ∧ b = -1))) := by
  refine pu_of_Y rf_arena_empty_ok (Nat.le_of_ble_eq_true rfl) (Y_go 2000 ?_)
  simp only [rf_arena_empty]
  (repeat' (first
    | (simp (disch := (first | omega | (simp only [List.length_map, List.length_append, List.length_cons, List.length_nil, List.length_set, List.length_replicate, List.length_take, List.length_drop] <;> omega) | fail)) only [yw0, yw1, yw2, yw3, yw4, yw5, yw6, yw7, tch, pld, pld1, psub, alleq, tvL, tv, Int.reduceToNat, PV.cld, PV.cldL, PV.sca, PV.scaL, elemOf, chunk, pbsl, pext, pfld, papart, psto, pblk, pkill, ↓reduceIte, Nat.reduceEqDiff, Nat.reduceAdd, Nat.reduceSub, Nat.reduceMul, Nat.reduceDiv, Nat.reduceLeDiff, Int.reduceEq, Int.reduceLT, Int.reduceLE, Int.reduceNeg, decide_true, decide_false, reduceCtorEq, and_self, true_and, and_true, Option.some.injEq, exists_eq_left', Prod.mk.injEq, PV.res, PV.resL, offB, PB.froz, not_false_eq_true, not_true_eq_false, ite_true, ite_false, PV.ren, PV.renL, PB.ren, gval, beq_self_eq_true, eq_self, ptch])
    | (with_reducible refine ZB_d (fun h hd => ?_) (fun h hd => ?_) <;> first | (exfalso; omega) | (simp only [hd]))
    | (with_reducible refine ZG_d (fun h hd => ?_) (fun h hd => ?_) <;> first | (exfalso; omega) | (simp only [hd]))
    | (with_reducible refine ZRG_d (fun h hd => ?_) (fun h hd => ?_) <;> first | (exfalso; omega) | (simp only [hd]))
    | (with_reducible refine ZB_b' (fun hd => ?_) (fun hd => ?_) <;> simp only [hd])
    | (with_reducible refine ZG_b' (fun hd => ?_) (fun hd => ?_) <;> simp only [hd])
    | (with_reducible refine ZRG_b' (fun hd => ?_) (fun hd => ?_) <;> simp only [hd])
    | (with_reducible refine Y_regd ?ok (fun l' hl' => YR_go ?_); (case ok => kernel_rfl))
    | assumption
    | omega))
  all_goals (refine Wv_cl 3 ?_; simp [PV.res, h])

/-- The free list, from a place on: what was met; none: it doesn't end. -/
def listGo (rs : List Rec) : Nat → List Int → Int → Option (List Int)
  | 0, _, _ => none
  | n + 1, l, i => if i = -1 then some l else if i < 0 ∨ rs.length ≤ i ∨ l.length = rs.length ∨ ¬ (ga rs i.toNat).emp then none else listGo rs n (l ++ [i]) (ga rs i.toNat).next

theorem list_pu (w : Nat) (rs : List Rec) (free : Int) (hl : rs.length ≤ 1000000) : Pu Go.Proofs.Try.prog fn_arena_list [.ag [.vs w 3 (rs.map pRec), .it .i64 free]] []
    (.tu [.vs 1 1 (((listGo rs (rs.length + 1) [] free).getD []).map pI), .bo (decide ((listGo rs (rs.length + 1) [] free).isSome = true))]) := by
  refine pu_of_Y rf_arena_list_ok (Nat.le_of_ble_eq_true rfl) (Y_go 2000 ?_)
  simp only [rf_arena_list]
  generalize hres : listGo rs (rs.length + 1) [] free = res
  (repeat' (first
    | (simp (disch := (first | omega | (simp only [List.length_map, List.length_append, List.length_cons, List.length_nil, List.length_set, List.length_replicate, List.length_take, List.length_drop] <;> omega) | fail)) only [yw0, yw1, yw2, yw3, yw4, yw5, yw6, yw7, tch, pld, pld1, psub, alleq, tvL, tv, Int.reduceToNat, PV.cld, PV.cldL, PV.sca, PV.scaL, elemOf, chunk, pbsl, pext, pfld, papart, psto, pblk, pkill, ↓reduceIte, Nat.reduceEqDiff, Nat.reduceAdd, Nat.reduceSub, Nat.reduceMul, Nat.reduceDiv, Nat.reduceLeDiff, Int.reduceEq, Int.reduceLT, Int.reduceLE, Int.reduceNeg, decide_true, decide_false, reduceCtorEq, and_self, true_and, and_true, Option.some.injEq, exists_eq_left', Prod.mk.injEq, PV.res, PV.resL, offB, PB.froz, not_false_eq_true, not_true_eq_false, ite_true, ite_false, PV.ren, PV.renL, PB.ren, gval, beq_self_eq_true, eq_self, ptch])
    | (with_reducible refine ZB_d (fun h hd => ?_) (fun h hd => ?_) <;> first | (exfalso; omega) | (simp only [hd]))
    | (with_reducible refine ZG_d (fun h hd => ?_) (fun h hd => ?_) <;> first | (exfalso; omega) | (simp only [hd]))
    | (with_reducible refine ZRG_d (fun h hd => ?_) (fun h hd => ?_) <;> first | (exfalso; omega) | (simp only [hd]))
    | (with_reducible refine ZB_b' (fun hd => ?_) (fun hd => ?_) <;> simp only [hd])
    | (with_reducible refine ZG_b' (fun hd => ?_) (fun hd => ?_) <;> simp only [hd])
    | (with_reducible refine ZRG_b' (fun hd => ?_) (fun hd => ?_) <;> simp only [hd])
    | (with_reducible refine Y_regd ?ok (fun l' hl' => YR_go ?_); (case ok => kernel_rfl))
    | assumption
    | omega))
  refine Y_nils 2 1 (by simp only [yw0, yw1, yw2, yw3, yw4, yw5, yw6, yw7, tch, pld, pld1, psub, alleq, tvL, tv, Int.reduceToNat, PV.cld, PV.cldL, PV.sca, PV.scaL, elemOf, chunk, pbsl, pext, pfld, papart, psto, pblk, pkill, ↓reduceIte, Nat.reduceEqDiff, Nat.reduceAdd, Nat.reduceSub, Nat.reduceMul, Nat.reduceDiv, Nat.reduceLeDiff, Int.reduceEq, Int.reduceLT, Int.reduceLE, Int.reduceNeg, decide_true, decide_false, reduceCtorEq, and_self, true_and, and_true, Option.some.injEq, exists_eq_left', Prod.mk.injEq, PV.res, PV.resL, offB, PB.froz, not_false_eq_true, not_true_eq_false, ite_true, ite_false, PV.ren, PV.renL, PB.ren, gval, beq_self_eq_true, eq_self, ptch]) ?_
  refine Y_loopI (σ := List Int × Int) (fun s => [(1, .pt 0 0), (2, .gr 1), (4, .it .i64 s.2)]) (fun s => [.va [.vs w 3 (rs.map pRec), .it .i64 free], .gs true 1 (s.1.map pI)])
    (fun s => listGo rs (rs.length + 1 - s.1.length) s.1 s.2 = res ∧ s.1.length ≤ rs.length) (fun s => rs.length - s.1.length) ([], free) ⟨by simpa using hres, by simp⟩ ?_ ?_
  · refine Wk_l [0, 1] (by simp) (fun b hb => by omega) (by decide) ?_ ?_ <;> simp (disch := (first | omega | (simp only [List.length_map, List.length_append, List.length_cons, List.length_nil, List.length_set, List.length_replicate, List.length_take, List.length_drop] <;> omega) | fail)) only [yw0, yw1, yw2, yw3, yw4, yw5, yw6, yw7, tch, pld, pld1, psub, alleq, tvL, tv, Int.reduceToNat, PV.cld, PV.cldL, PV.sca, PV.scaL, elemOf, chunk, pbsl, pext, pfld, papart, psto, pblk, pkill, ↓reduceIte, Nat.reduceEqDiff, Nat.reduceAdd, Nat.reduceSub, Nat.reduceMul, Nat.reduceDiv, Nat.reduceLeDiff, Int.reduceEq, Int.reduceLT, Int.reduceLE, Int.reduceNeg, decide_true, decide_false, reduceCtorEq, and_self, true_and, and_true, Option.some.injEq, exists_eq_left', Prod.mk.injEq, PV.res, PV.resL, offB, PB.froz, not_false_eq_true, not_true_eq_false, ite_true, ite_false, PV.ren, PV.renL, PB.ren, gval, beq_self_eq_true, eq_self, ptch, wke_n, wke_c, wkb_n, wkb_c, rho_0, rho_s, PV.ren, PV.renL, PV.bel, PV.belL, PB.ren, PB.bel, Bool.and_self, Bool.and_true, Bool.true_and] <;> simp
  · rintro ⟨l, i⟩ ⟨hs, hll⟩ hnext
    simp only at hs hll ⊢
    rw [show rs.length + 1 - l.length = (rs.length - l.length) + 1 by omega] at hs
    simp only [listGo] at hs
    refine Y_go 2000 ?_
    (repeat' (first
    | (simp (disch := (first | omega | (simp only [List.length_map, List.length_append, List.length_cons, List.length_nil, List.length_set, List.length_replicate, List.length_take, List.length_drop] <;> omega) | fail)) only [yw0, yw1, yw2, yw3, yw4, yw5, yw6, yw7, tch, pld, pld1, psub, alleq, tvL, tv, Int.reduceToNat, PV.cld, PV.cldL, PV.sca, PV.scaL, elemOf, chunk, pbsl, pext, pfld, papart, psto, pblk, pkill, ↓reduceIte, Nat.reduceEqDiff, Nat.reduceAdd, Nat.reduceSub, Nat.reduceMul, Nat.reduceDiv, Nat.reduceLeDiff, Int.reduceEq, Int.reduceLT, Int.reduceLE, Int.reduceNeg, decide_true, decide_false, reduceCtorEq, and_self, true_and, and_true, Option.some.injEq, exists_eq_left', Prod.mk.injEq, PV.res, PV.resL, offB, PB.froz, not_false_eq_true, not_true_eq_false, ite_true, ite_false, PV.ren, PV.renL, PB.ren, gval, beq_self_eq_true, eq_self, ptch])
    | (with_reducible refine ZB_d (fun h hd => ?_) (fun h hd => ?_) <;> first | (exfalso; omega) | (simp only [hd]))
    | (with_reducible refine ZG_d (fun h hd => ?_) (fun h hd => ?_) <;> first | (exfalso; omega) | (simp only [hd]))
    | (with_reducible refine ZRG_d (fun h hd => ?_) (fun h hd => ?_) <;> first | (exfalso; omega) | (simp only [hd]))
    | (with_reducible refine ZB_b' (fun hd => ?_) (fun hd => ?_) <;> simp only [hd])
    | (with_reducible refine ZG_b' (fun hd => ?_) (fun hd => ?_) <;> simp only [hd])
    | (with_reducible refine ZRG_b' (fun hd => ?_) (fun hd => ?_) <;> simp only [hd])
    | (with_reducible refine Y_regd ?ok (fun l' hl' => YR_go ?_); (case ok => kernel_rfl))
    | (with_reducible refine Y_lend 9 ?ha (empty_pu ?_ ?_ ?_) rfl (Y_go 2000 ?_); (case ha => (simp (disch := (first | omega | (simp only [List.length_map, List.length_append, List.length_cons, List.length_nil, List.length_set, List.length_replicate, List.length_take, List.length_drop] <;> omega) | fail)) only [yw0, yw1, yw2, yw3, yw4, yw5, yw6, yw7, tch, pld, pld1, psub, alleq, tvL, tv, Int.reduceToNat, PV.cld, PV.cldL, PV.sca, PV.scaL, elemOf, chunk, pbsl, pext, pfld, papart, psto, pblk, pkill, ↓reduceIte, Nat.reduceEqDiff, Nat.reduceAdd, Nat.reduceSub, Nat.reduceMul, Nat.reduceDiv, Nat.reduceLeDiff, Int.reduceEq, Int.reduceLT, Int.reduceLE, Int.reduceNeg, decide_true, decide_false, reduceCtorEq, and_self, true_and, and_true, Option.some.injEq, exists_eq_left', Prod.mk.injEq, PV.res, PV.resL, offB, PB.froz, not_false_eq_true, not_true_eq_false, ite_true, ite_false, PV.ren, PV.renL, PB.ren, gval, beq_self_eq_true, eq_self, ptch] <;> rfl)))
    | (with_reducible refine YR_lend 9 ?hg ?ha (empty_pu ?_ ?_ ?_) rfl (YR_go ?_); (case hg => simp only [yw0, yw1, yw2, yw3, yw4, yw5, yw6, yw7, tch, pld, pld1, psub, alleq, tvL, tv, Int.reduceToNat, PV.cld, PV.cldL, PV.sca, PV.scaL, elemOf, chunk, pbsl, pext, pfld, papart, psto, pblk, pkill, ↓reduceIte, Nat.reduceEqDiff, Nat.reduceAdd, Nat.reduceSub, Nat.reduceMul, Nat.reduceDiv, Nat.reduceLeDiff, Int.reduceEq, Int.reduceLT, Int.reduceLE, Int.reduceNeg, decide_true, decide_false, reduceCtorEq, and_self, true_and, and_true, Option.some.injEq, exists_eq_left', Prod.mk.injEq, PV.res, PV.resL, offB, PB.froz, not_false_eq_true, not_true_eq_false, ite_true, ite_false, PV.ren, PV.renL, PB.ren, gval, beq_self_eq_true, eq_self, ptch]); (case ha => (simp (disch := (first | omega | (simp only [List.length_map, List.length_append, List.length_cons, List.length_nil, List.length_set, List.length_replicate, List.length_take, List.length_drop] <;> omega) | fail)) only [yw0, yw1, yw2, yw3, yw4, yw5, yw6, yw7, tch, pld, pld1, psub, alleq, tvL, tv, Int.reduceToNat, PV.cld, PV.cldL, PV.sca, PV.scaL, elemOf, chunk, pbsl, pext, pfld, papart, psto, pblk, pkill, ↓reduceIte, Nat.reduceEqDiff, Nat.reduceAdd, Nat.reduceSub, Nat.reduceMul, Nat.reduceDiv, Nat.reduceLeDiff, Int.reduceEq, Int.reduceLT, Int.reduceLE, Int.reduceNeg, decide_true, decide_false, reduceCtorEq, and_self, true_and, and_true, Option.some.injEq, exists_eq_left', Prod.mk.injEq, PV.res, PV.resL, offB, PB.froz, not_false_eq_true, not_true_eq_false, ite_true, ite_false, PV.ren, PV.renL, PB.ren, gval, beq_self_eq_true, eq_self, ptch] <;> rfl)))
    | assumption
    | omega))
    all_goals first
      | (have hr : res = none := by
           rw [← hs]
           repeat' split
           all_goals first | rfl | (exfalso; omega)
         subst hr
         exact Wv_le 9 (by simp only [yw0, yw1, yw2, yw3, yw4, yw5, yw6, yw7, tch, pld, pld1, psub, alleq, tvL, tv, Int.reduceToNat, PV.cld, PV.cldL, PV.sca, PV.scaL, elemOf, chunk, pbsl, pext, pfld, papart, psto, pblk, pkill, ↓reduceIte, Nat.reduceEqDiff, Nat.reduceAdd, Nat.reduceSub, Nat.reduceMul, Nat.reduceDiv, Nat.reduceLeDiff, Int.reduceEq, Int.reduceLT, Int.reduceLE, Int.reduceNeg, decide_true, decide_false, reduceCtorEq, and_self, true_and, and_true, Option.some.injEq, exists_eq_left', Prod.mk.injEq, PV.res, PV.resL, offB, PB.froz, not_false_eq_true, not_true_eq_false, ite_true, ite_false, PV.ren, PV.renL, PB.ren, gval, beq_self_eq_true, eq_self, ptch]; rfl) (by simp [ple_dd, ple_sn, ple_vs, ple_ag, ple_tu, ple_it, ple_bo, ple_n, ple_c, ple_pe]))
      | (have hr : res = some l := by
           rw [← hs]
           repeat' split
           all_goals first | rfl | (exfalso; omega)
         subst hr
         exact Wv_le 9 (by simp only [yw0, yw1, yw2, yw3, yw4, yw5, yw6, yw7, tch, pld, pld1, psub, alleq, tvL, tv, Int.reduceToNat, PV.cld, PV.cldL, PV.sca, PV.scaL, elemOf, chunk, pbsl, pext, pfld, papart, psto, pblk, pkill, ↓reduceIte, Nat.reduceEqDiff, Nat.reduceAdd, Nat.reduceSub, Nat.reduceMul, Nat.reduceDiv, Nat.reduceLeDiff, Int.reduceEq, Int.reduceLT, Int.reduceLE, Int.reduceNeg, decide_true, decide_false, reduceCtorEq, and_self, true_and, and_true, Option.some.injEq, exists_eq_left', Prod.mk.injEq, PV.res, PV.resL, offB, PB.froz, not_false_eq_true, not_true_eq_false, ite_true, ite_false, PV.ren, PV.renL, PB.ren, gval, beq_self_eq_true, eq_self, ptch]; rfl) (by simp [ple_dd, ple_sn, ple_vs, ple_ag, ple_tu, ple_it, ple_bo, ple_n, ple_c, ple_pe]))
      | skip
    refine hnext.h (l ++ [i], (ga rs i.toNat).next) _ _ ⟨?_, ?_⟩ ?_ (Wk_l [0, 3] (by simp) (fun b hb => by omega) (by decide) ?_ ?_)
    · rw [← hs]
      repeat' split
      all_goals first | (exfalso; omega) | skip
      simp only [List.length_append, List.length_cons, List.length_nil]
      congr 1; omega
    · simp only [List.length_append, List.length_cons, List.length_nil]
      omega
    · simp only [List.length_append, List.length_cons, List.length_nil]
      omega
    · simp (disch := (first | omega | (simp only [List.length_map, List.length_append, List.length_cons, List.length_nil, List.length_set, List.length_replicate, List.length_take, List.length_drop] <;> omega) | fail)) only [yw0, yw1, yw2, yw3, yw4, yw5, yw6, yw7, tch, pld, pld1, psub, alleq, tvL, tv, Int.reduceToNat, PV.cld, PV.cldL, PV.sca, PV.scaL, elemOf, chunk, pbsl, pext, pfld, papart, psto, pblk, pkill, ↓reduceIte, Nat.reduceEqDiff, Nat.reduceAdd, Nat.reduceSub, Nat.reduceMul, Nat.reduceDiv, Nat.reduceLeDiff, Int.reduceEq, Int.reduceLT, Int.reduceLE, Int.reduceNeg, decide_true, decide_false, reduceCtorEq, and_self, true_and, and_true, Option.some.injEq, exists_eq_left', Prod.mk.injEq, PV.res, PV.resL, offB, PB.froz, not_false_eq_true, not_true_eq_false, ite_true, ite_false, PV.ren, PV.renL, PB.ren, gval, beq_self_eq_true, eq_self, ptch, wke_n, wke_c, wkb_n, wkb_c, rho_0, rho_s, PV.ren, PV.renL, PV.bel, PV.belL, PB.ren, PB.bel, Bool.and_self, Bool.and_true, Bool.true_and, List.map_append] <;> simp
    · simp (disch := (first | omega | (simp only [List.length_map, List.length_append, List.length_cons, List.length_nil, List.length_set, List.length_replicate, List.length_take, List.length_drop] <;> omega) | fail)) only [yw0, yw1, yw2, yw3, yw4, yw5, yw6, yw7, tch, pld, pld1, psub, alleq, tvL, tv, Int.reduceToNat, PV.cld, PV.cldL, PV.sca, PV.scaL, elemOf, chunk, pbsl, pext, pfld, papart, psto, pblk, pkill, ↓reduceIte, Nat.reduceEqDiff, Nat.reduceAdd, Nat.reduceSub, Nat.reduceMul, Nat.reduceDiv, Nat.reduceLeDiff, Int.reduceEq, Int.reduceLT, Int.reduceLE, Int.reduceNeg, decide_true, decide_false, reduceCtorEq, and_self, true_and, and_true, Option.some.injEq, exists_eq_left', Prod.mk.injEq, PV.res, PV.resL, offB, PB.froz, not_false_eq_true, not_true_eq_false, ite_true, ite_false, PV.ren, PV.renL, PB.ren, gval, beq_self_eq_true, eq_self, ptch, wke_n, wke_c, wkb_n, wkb_c, rho_0, rho_s, PV.ren, PV.renL, PV.bel, PV.belL, PB.ren, PB.bel, Bool.and_self, Bool.and_true, Bool.true_and] <;> simp
end Go.AX
