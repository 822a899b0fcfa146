/- AY, part O: functions of Go's library, at any type; nil or not. -/
import Derived.Test.YtjmknbbipadjbaaAyNb
set_option linter.unusedSimpArgs false
set_option linter.unusedVariables false
set_option maxRecDepth 4000
namespace Go.AX
open Go

section
variable {P : Program} {K : Nat} {R : PEnd} {k : List It} {E : PE0} {B : List PB} {l : List ROper}
theorem Z_0 : Z P K R 0 k E B = Y P K R k E B := Eq.trans rfl rfl
/-- Is a slice nil? Who can't tell goes both ways. -/
theorem Y_isnil {d : Option Nat} {cn : Bool} {x : Opd} {w es : Nat} {m : List PV} (hx : pev E x = .vs w es m) (h1 : m = [] → Y P K R (.o l :: k) (E.put d (.bo true)) B) (h2 : Y P K R (.o l :: k) (E.put d (.bo false)) B) :
    Y P K R (.o (⟨d, none, .v (.bin .eql .sl cn x (.k .sn))⟩ :: l) :: k) E B := by
  intro L0 H0 B0 Rx r1 r2 L H Ea fw hK hR hE
  have hr := Rp_ev hE x
  rw [hx] at hr
  obtain ⟨⟨cs, g1, g2, g3⟩, _⟩ := hr
  rw [X_ov]
  generalize hn : m.length = n at g1
  generalize hev : ev Ea x = a at *
  cases g1 with
  | sn =>
    have hm : m = [] := List.eq_nil_of_length_eq_zero hn
    refine ⟨.bo true, H, ?_, h1 hm L0 H0 B0 Rx r1 r2 L H _ fw hK hR (ER_put hE rfl)⟩
    simp only [vop, hev]
    rfl
  | sl =>
    refine ⟨.bo false, H, ?_, h2 L0 H0 B0 Rx r1 r2 L H _ fw hK hR (ER_put hE rfl)⟩
    simp only [vop, hev]
    rfl
  | sg =>
    refine ⟨.bo false, H, ?_, h2 L0 H0 B0 Rx r1 r2 L H _ fw hK hR (ER_put hE rfl)⟩
    simp only [vop, hev]
    rfl
theorem Wv_nil {es : Nat} : Wv 0 B .sn [.gs true es []] (.gr 0) := by
  intro L H a hK hR hu
  simp only [Rp] at hu; subst hu
  refine ⟨⟨1, fun _ => .sn, L.F⟩, Nat.zero_le _, ⟨rfl, hR.fl, hR.wf, fun b p hb => ?_, fun b b' p p' X hb hb' ho ho' hX => by cases hX⟩, ⟨Nat.lt_succ_self _, rfl, rfl⟩, fun b hb => by omega, fun X h => h, fun X h => .inl h, fun X ⟨b, p, h1, h2, h3, h4⟩ => by cases h3⟩
  cases b with
  | zero =>
    simp only [List.getElem?_cons_zero, Option.some.injEq] at hb; subst hb
    exact ⟨.inl ⟨Rc_snil, fun _ => rfl⟩, rfl⟩
  | succ b => simp at hb
/-- What is one's own, given along. -/
theorem Wv_l (r : List Nat) {u v : PV} {B1 : List PB} (hn : r.Nodup) (hB : WkB r B1.length B B1 r) (hu : u = v.ren (rho r)) (hv : v.bel B1.length = true) : Wv 0 B u B1 v := by
  have hlen := WkB_len hB
  refine Wv_ren (rho r) (Nat.zero_le _) (fun b hb => by omega) (fun b c hb hc h => ?_) (fun b p hp => ?_) hu hv
  · have h1 : r.getD b 0 = r.getD c 0 := h
    rw [List.getD_eq_getElem?_getD, List.getD_eq_getElem?_getD, List.getElem?_eq_getElem (by omega), List.getElem?_eq_getElem (by omega)] at h1
    simp only [Option.getD_some] at h1
    exact (List.getElem_inj hn).1 h1
  · obtain ⟨c, h1, h2⟩ := WkB_get hB hp
    have : rho r b = c := by simp only [rho, List.getD_eq_getElem?_getD, h1, Option.getD_some]
    rw [this]; exact h2
end

section
variable {P : Program} {f : FuncId}
/-- A contract, told with less. -/
theorem Pu.le (d : Nat) {args : List PV} {B1 : List PB} {v v0 v1 : PV} (h : Pu P f args B1 v) (hr : v.res B1 d = some v0) (hl : Ple v0 v1) : Pu P f args [] v1 := by
  intro L H avs hR ha
  obtain ⟨a, H', L', h1, h2, h3, h4, h5⟩ := h L H avs hR ha
  obtain ⟨L2, g1, g2, g3, g4, g5, g6, g7⟩ := Wv_le d hr hl L' H' a (Nat.zero_le _) h3 h4
  have hn : L.n = 0 := hR.n
  refine ⟨a, H', L2, h1, ⟨⟨⟨h2.k.st.nx, fun X hX => g5 X (h2.k.st.sF X hX), h2.k.st.g⟩, by omega, fun b hb => by omega⟩, h2.fr, fun X hX => ?_, fun X hX => ?_⟩, g2, g3, h5⟩
  · rcases g6 X hX with hX | hX
    · exact h2.fF X hX
    · exact .inr (h2.fO X hX)
  · exact h2.fO X (g7 X hX)
/-! ### slices.Clone -/
def rfClone (es bytes : Nat) : RFun := ⟨8, [.t 2], .seq (.reg [⟨some 2, none, .v (.mv (.k .sn))⟩]) (.seq (.seq (.reg [⟨some 3, none, .v (.mv (.t 0))⟩, ⟨some 4, none, .v (.bin .eql .sl true (.t 3) (.k .sn))⟩]) (.cond (.t 4) (.seq (.reg [⟨some 2, none, .v (.mv (.k .sn))⟩]) .ret) .skip)) (.seq (.reg [⟨some 5, none, .v (.bsl 0 [] [])⟩, ⟨some 6, none, .v (.mv (.t 0))⟩, ⟨some 7, none, .v (.app es bytes (.t 5) (.t 6))⟩, ⟨some 2, none, .v (.mv (.t 7))⟩]) .ret))⟩
theorem clone_gen {es bytes : Nat} (hf : resF P f = some (rfClone es bytes)) (w : Nat) (l : List PV) (hes : 0 < es) (hb : l.length * bytes ≤ 140737488355328) : Pu P f [.vs w es l] [.gs true es l] (.gr 0) := by
  refine pu_of_Y hf (Nat.le_of_ble_eq_true rfl) (Y_go 8 ?_)
  simp only [rfClone]
  simp only [yw0, yw1, yw2, yw3, yw4, yw5, yw6, yw7, tch, pld, pld1, psub, alleq, tvL, tv, Int.reduceToNat, PV.cld, PV.cldL, PV.sca, PV.scaL, elemOf, chunk, pbsl, pext, pfld, papart, psto, pblk, pkill, ↓reduceIte, Nat.reduceEqDiff, Nat.reduceAdd, Nat.reduceSub, Nat.reduceMul, Nat.reduceDiv, Nat.reduceLeDiff, Int.reduceEq, Int.reduceLT, Int.reduceLE, Int.reduceNeg, decide_true, decide_false, reduceCtorEq, and_self, true_and, and_true, Option.some.injEq, exists_eq_left', Prod.mk.injEq, PV.res, PV.resL, offB, PB.froz, not_false_eq_true, not_true_eq_false, ite_true, ite_false, PV.ren, PV.renL, PB.ren, gval, beq_self_eq_true, eq_self, ptch, Z_0]
  refine Y_isnil (by simp only [yw0, yw1, yw2, yw3, yw4, yw5, yw6, yw7, tch, pld, pld1, psub, alleq, tvL, tv, Int.reduceToNat, PV.cld, PV.cldL, PV.sca, PV.scaL, elemOf, chunk, pbsl, pext, pfld, papart, psto, pblk, pkill, ↓reduceIte, Nat.reduceEqDiff, Nat.reduceAdd, Nat.reduceSub, Nat.reduceMul, Nat.reduceDiv, Nat.reduceLeDiff, Int.reduceEq, Int.reduceLT, Int.reduceLE, Int.reduceNeg, decide_true, decide_false, reduceCtorEq, and_self, true_and, and_true, Option.some.injEq, exists_eq_left', Prod.mk.injEq, PV.res, PV.resL, offB, PB.froz, not_false_eq_true, not_true_eq_false, ite_true, ite_false, PV.ren, PV.renL, PB.ren, gval, beq_self_eq_true, eq_self, ptch]; rfl) (fun hl => Y_go 2000 ?_) (Y_go 2000 ?_)
  · subst hl
    simp only [yw0, yw1, yw2, yw3, yw4, yw5, yw6, yw7, tch, pld, pld1, psub, alleq, tvL, tv, Int.reduceToNat, PV.cld, PV.cldL, PV.sca, PV.scaL, elemOf, chunk, pbsl, pext, pfld, papart, psto, pblk, pkill, ↓reduceIte, Nat.reduceEqDiff, Nat.reduceAdd, Nat.reduceSub, Nat.reduceMul, Nat.reduceDiv, Nat.reduceLeDiff, Int.reduceEq, Int.reduceLT, Int.reduceLE, Int.reduceNeg, decide_true, decide_false, reduceCtorEq, and_self, true_and, and_true, Option.some.injEq, exists_eq_left', Prod.mk.injEq, PV.res, PV.resL, offB, PB.froz, not_false_eq_true, not_true_eq_false, ite_true, ite_false, PV.ren, PV.renL, PB.ren, gval, beq_self_eq_true, eq_self, ptch]
    exact Wv_nil
  · simp only [yw0, yw1, yw2, yw3, yw4, yw5, yw6, yw7, tch, pld, pld1, psub, alleq, tvL, tv, Int.reduceToNat, PV.cld, PV.cldL, PV.sca, PV.scaL, elemOf, chunk, pbsl, pext, pfld, papart, psto, pblk, pkill, ↓reduceIte, Nat.reduceEqDiff, Nat.reduceAdd, Nat.reduceSub, Nat.reduceMul, Nat.reduceDiv, Nat.reduceLeDiff, Int.reduceEq, Int.reduceLT, Int.reduceLE, Int.reduceNeg, decide_true, decide_false, reduceCtorEq, and_self, true_and, and_true, Option.some.injEq, exists_eq_left', Prod.mk.injEq, PV.res, PV.resL, offB, PB.froz, not_false_eq_true, not_true_eq_false, ite_true, ite_false, PV.ren, PV.renL, PB.ren, gval, beq_self_eq_true, eq_self, ptch]
    rw [szIf_t ⟨hb, hes⟩]
    simp only [yw0, yw1, yw2, yw3, yw4, yw5, yw6, yw7, tch, pld, pld1, psub, alleq, tvL, tv, Int.reduceToNat, PV.cld, PV.cldL, PV.sca, PV.scaL, elemOf, chunk, pbsl, pext, pfld, papart, psto, pblk, pkill, ↓reduceIte, Nat.reduceEqDiff, Nat.reduceAdd, Nat.reduceSub, Nat.reduceMul, Nat.reduceDiv, Nat.reduceLeDiff, Int.reduceEq, Int.reduceLT, Int.reduceLE, Int.reduceNeg, decide_true, decide_false, reduceCtorEq, and_self, true_and, and_true, Option.some.injEq, exists_eq_left', Prod.mk.injEq, PV.res, PV.resL, offB, PB.froz, not_false_eq_true, not_true_eq_false, ite_true, ite_false, PV.ren, PV.renL, PB.ren, gval, beq_self_eq_true, eq_self, ptch]
    exact Wv_l [0] (by decide) (by simp only [wke_n, wke_c, wkb_n, wkb_c, rho_0, rho_s, PV.ren, PV.renL, PV.bel, PV.belL, PB.ren, PB.bel, Bool.and_self, Bool.and_true, Bool.true_and, yw0, yw1, yw2, yw3, yw4, yw5, yw6, yw7, tch, pld, pld1, psub, alleq, tvL, tv, Int.reduceToNat, PV.cld, PV.cldL, PV.sca, PV.scaL, elemOf, chunk, pbsl, pext, pfld, papart, psto, pblk, pkill, ↓reduceIte, Nat.reduceEqDiff, Nat.reduceAdd, Nat.reduceSub, Nat.reduceMul, Nat.reduceDiv, Nat.reduceLeDiff, Int.reduceEq, Int.reduceLT, Int.reduceLE, Int.reduceNeg, decide_true, decide_false, reduceCtorEq, and_self, true_and, and_true, Option.some.injEq, exists_eq_left', Prod.mk.injEq, PV.res, PV.resL, offB, PB.froz, not_false_eq_true, not_true_eq_false, ite_true, ite_false, PV.ren, PV.renL, PB.ren, gval, beq_self_eq_true, eq_self, ptch]) rfl rfl

/-! ### slices.IndexFunc, ContainsFunc -/
def rfIndexFunc (es : Nat) (ag : Bool) : RFun := ⟨19, [.t 4], .seq (.reg [⟨some 4, none, .v (.mv (.k (.it .i64 0)))⟩]) (.seq (.seq (.reg [⟨some 6, none, .v (.mv (.t 0))⟩, ⟨some 7, none, .v (.len 1 (.t 6))⟩, ⟨some 8, none, .v (.mv (.k (.it .i64 0)))⟩]) (.block 0 (.loop (.seq (.reg [⟨some 9, none, .v (.bin .lss .no false (.t 8) (.t 7))⟩]) (.seq (.cond (.t 9) .skip (.exit 0)) (.seq (.block 1 (.seq (.reg [⟨some 10, none, .v (.mv (.t 8))⟩, ⟨some 5, none, .v (.mv (.t 10))⟩]) (.seq (.reg [⟨some 11, none, .v (.mv (.t 1))⟩, ⟨some 12, none, .v (.mv (.t 0))⟩, ⟨some 13, none, .v (.mv (.t 5))⟩, ⟨some 14, none, .v (.ia es (.t 12) (.t 13))⟩, ⟨some 15, none, .v (if ag then .ld es (.t 14) else .ld1 (.t 14))⟩, ⟨some 16, none, .calv (.t 11) [.t 15]⟩]) (.cond (.t 16) (.seq (.reg [⟨some 17, none, .v (.mv (.t 5))⟩, ⟨some 4, none, .v (.mv (.t 17))⟩]) .ret) .skip)))) (.reg [⟨some 18, none, .v (.bin .add .no true (.t 8) (.k (.it .i64 1)))⟩, ⟨some 8, none, .v (.mv (.t 18))⟩]))))))) (.seq (.reg [⟨some 4, none, .v (.mv (.k (.it .i64 (-1))))⟩]) .ret))⟩
/-- The first one of which it is so. -/
def findI {α : Type} (p : α → Bool) : List α → Nat → Int
  | [], _ => -1
  | x :: r, i => if p x = true then i else findI p r (i + 1)
theorem findI_at {α : Type} [Inhabited α] {p : α → Bool} {l : List α} {k : Nat} (h : k < l.length) : findI p (l.drop k) k = if p (ga l k) = true then (k : Int) else findI p (l.drop (k + 1)) (k + 1) := by
  rw [List.drop_eq_getElem_cons h]
  have : ga l k = l[k] := ga_eq (List.getElem?_eq_getElem h)
  rw [this]
  simp only [findI]
theorem take_all {l : List PV} {n : Nat} (h : l.length = n) : l.take n = l := by subst h; exact List.take_length
theorem indexFunc_gen {α : Type} [Inhabited α] {es : Nat} (hf : resF P f = some (rfIndexFunc es true)) {g : FuncId} (hbd : Bd P g) (w : Nat) (ys : List α) (enc : α → List PV) (hlen : ∀ y, (enc y).length = es) (ca : List PV) (p : α → Bool)
    (hce : ∀ y, PV.resL [] 7 (enc y) = some (enc y)) (hca : PV.resL [] 9 ca = some ca) (hcr : ∀ r, PV.renL r ca = ca) (hcb : PV.belL 0 ca = true) (hc : ∀ y ∈ ys, Pu P g (.ag (enc y) :: ca) [] (.bo (decide (p y = true)))) (hn : ys.length ≤ 1000000) :
    Pu P f [.vs w es (ys.map fun y => .ag (enc y)), .fn (.func g) [] ca] [] (.it .i64 (findI p ys 0)) := by
  refine pu_of_Y hf (Nat.le_of_ble_eq_true rfl) (Y_go 2000 ?_)
  simp only [rfIndexFunc]
  (repeat' (first
    | (simp (disch := (first | omega | (simp only [List.length_map, List.length_append, List.length_cons, List.length_nil, List.length_set, List.length_replicate, List.length_take, List.length_drop] <;> omega) | fail)) only [yw0, yw1, yw2, yw3, yw4, yw5, yw6, yw7, tch, pld, pld1, psub, alleq, tvL, tv, Int.reduceToNat, PV.cld, PV.cldL, PV.sca, PV.scaL, elemOf, chunk, pbsl, pext, pfld, papart, psto, pblk, pkill, ↓reduceIte, Nat.reduceEqDiff, Nat.reduceAdd, Nat.reduceSub, Nat.reduceMul, Nat.reduceDiv, Nat.reduceLeDiff, Int.reduceEq, Int.reduceLT, Int.reduceLE, Int.reduceNeg, decide_true, decide_false, reduceCtorEq, and_self, true_and, and_true, Option.some.injEq, exists_eq_left', Prod.mk.injEq, PV.res, PV.resL, offB, PB.froz, not_false_eq_true, not_true_eq_false, ite_true, ite_false, PV.ren, PV.renL, PB.ren, gval, beq_self_eq_true, eq_self, ptch])
    | (with_reducible refine ZB_d (fun h hd => ?_) (fun h hd => ?_) <;> first | (exfalso; omega) | (simp only [hd]))
    | (with_reducible refine ZG_d (fun h hd => ?_) (fun h hd => ?_) <;> first | (exfalso; omega) | (simp only [hd]))
    | (with_reducible refine ZRG_d (fun h hd => ?_) (fun h hd => ?_) <;> first | (exfalso; omega) | (simp only [hd]))
    | (with_reducible refine ZB_b' (fun hd => ?_) (fun hd => ?_) <;> simp only [hd])
    | (with_reducible refine ZG_b' (fun hd => ?_) (fun hd => ?_) <;> simp only [hd])
    | (with_reducible refine ZRG_b' (fun hd => ?_) (fun hd => ?_) <;> simp only [hd])
    | (with_reducible refine Y_regd ?ok (fun l' hl' => YR_go ?_); (case ok => kernel_rfl))
    | assumption
    | omega))
  refine Y_loopI (σ := Nat) (fun k => [(0, .vs w es (ys.map fun y => .ag (enc y))), (1, .fn (.func g) [] ca), (7, .it .i64 ys.length), (8, .it .i64 k)]) (fun k => [])
    (fun k => k ≤ ys.length ∧ findI p ys 0 = findI p (ys.drop k) k) (fun k => ys.length - k) 0 ⟨by omega, by simp⟩ ?_ ?_
  · refine Wk_l [] (by simp) (fun b hb => by omega) (by decide) ?_ ?_ <;> simp (disch := (first | omega | (simp only [List.length_map, List.length_append, List.length_cons, List.length_nil, List.length_set, List.length_replicate, List.length_take, List.length_drop] <;> omega) | fail)) only [yw0, yw1, yw2, yw3, yw4, yw5, yw6, yw7, tch, pld, pld1, psub, alleq, tvL, tv, Int.reduceToNat, PV.cld, PV.cldL, PV.sca, PV.scaL, elemOf, chunk, pbsl, pext, pfld, papart, psto, pblk, pkill, ↓reduceIte, Nat.reduceEqDiff, Nat.reduceAdd, Nat.reduceSub, Nat.reduceMul, Nat.reduceDiv, Nat.reduceLeDiff, Int.reduceEq, Int.reduceLT, Int.reduceLE, Int.reduceNeg, decide_true, decide_false, reduceCtorEq, and_self, true_and, and_true, Option.some.injEq, exists_eq_left', Prod.mk.injEq, PV.res, PV.resL, offB, PB.froz, not_false_eq_true, not_true_eq_false, ite_true, ite_false, PV.ren, PV.renL, PB.ren, gval, beq_self_eq_true, eq_self, ptch, wke_n, wke_c, wkb_n, wkb_c, rho_0, rho_s, PV.ren, PV.renL, PV.bel, PV.belL, PB.ren, PB.bel, Bool.and_self, Bool.and_true, Bool.true_and, hcr, hcb]
    simp
  have ht : ∀ y, (enc y).take es = enc y := fun y => take_all (hlen y)
  rintro k ⟨hk, hr⟩ hnext
  refine Y_go 2000 ?_
  (repeat' (first
    | (simp (disch := (first | omega | (simp only [List.length_map, List.length_append, List.length_cons, List.length_nil, List.length_set, List.length_replicate, List.length_take, List.length_drop] <;> omega) | fail)) only [yw0, yw1, yw2, yw3, yw4, yw5, yw6, yw7, tch, pld, pld1, psub, alleq, tvL, tv, Int.reduceToNat, PV.cld, PV.cldL, PV.sca, PV.scaL, elemOf, chunk, pbsl, pext, pfld, papart, psto, pblk, pkill, ↓reduceIte, Nat.reduceEqDiff, Nat.reduceAdd, Nat.reduceSub, Nat.reduceMul, Nat.reduceDiv, Nat.reduceLeDiff, Int.reduceEq, Int.reduceLT, Int.reduceLE, Int.reduceNeg, decide_true, decide_false, reduceCtorEq, and_self, true_and, and_true, Option.some.injEq, exists_eq_left', Prod.mk.injEq, PV.res, PV.resL, offB, PB.froz, not_false_eq_true, not_true_eq_false, ite_true, ite_false, PV.ren, PV.renL, PB.ren, gval, beq_self_eq_true, eq_self, ptch, hlen, ht, Nat.le_refl])
    | (with_reducible refine ZB_d (fun h hd => ?_) (fun h hd => ?_) <;> first | (exfalso; omega) | (simp only [hd]))
    | (with_reducible refine ZG_d (fun h hd => ?_) (fun h hd => ?_) <;> first | (exfalso; omega) | (simp only [hd]))
    | (with_reducible refine ZRG_d (fun h hd => ?_) (fun h hd => ?_) <;> first | (exfalso; omega) | (simp only [hd]))
    | (with_reducible refine ZB_b' (fun hd => ?_) (fun hd => ?_) <;> simp only [hd])
    | (with_reducible refine ZG_b' (fun hd => ?_) (fun hd => ?_) <;> simp only [hd])
    | (with_reducible refine ZRG_b' (fun hd => ?_) (fun hd => ?_) <;> simp only [hd])
    | (with_reducible refine Y_regd ?ok (fun l' hl' => YR_go ?_); (case ok => kernel_rfl))
    | assumption
    | omega))
  · have hk' : k < ys.length := by omega
    rw [findI_at hk'] at hr
    refine Y_lendv 9 (by simp only [yw0, yw1, yw2, yw3, yw4, yw5, yw6, yw7, tch, pld, pld1, psub, alleq, tvL, tv, Int.reduceToNat, PV.cld, PV.cldL, PV.sca, PV.scaL, elemOf, chunk, pbsl, pext, pfld, papart, psto, pblk, pkill, ↓reduceIte, Nat.reduceEqDiff, Nat.reduceAdd, Nat.reduceSub, Nat.reduceMul, Nat.reduceDiv, Nat.reduceLeDiff, Int.reduceEq, Int.reduceLT, Int.reduceLE, Int.reduceNeg, decide_true, decide_false, reduceCtorEq, and_self, true_and, and_true, Option.some.injEq, exists_eq_left', Prod.mk.injEq, PV.res, PV.resL, offB, PB.froz, not_false_eq_true, not_true_eq_false, ite_true, ite_false, PV.ren, PV.renL, PB.ren, gval, beq_self_eq_true, eq_self, ptch]; rfl) hbd (as' := .ag (enc (ga ys k)) :: ca) (by simp only [yw0, yw1, yw2, yw3, yw4, yw5, yw6, yw7, tch, pld, pld1, psub, alleq, tvL, tv, Int.reduceToNat, PV.cld, PV.cldL, PV.sca, PV.scaL, elemOf, chunk, pbsl, pext, pfld, papart, psto, pblk, pkill, ↓reduceIte, Nat.reduceEqDiff, Nat.reduceAdd, Nat.reduceSub, Nat.reduceMul, Nat.reduceDiv, Nat.reduceLeDiff, Int.reduceEq, Int.reduceLT, Int.reduceLE, Int.reduceNeg, decide_true, decide_false, reduceCtorEq, and_self, true_and, and_true, Option.some.injEq, exists_eq_left', Prod.mk.injEq, PV.res, PV.resL, offB, PB.froz, not_false_eq_true, not_true_eq_false, ite_true, ite_false, PV.ren, PV.renL, PB.ren, gval, beq_self_eq_true, eq_self, ptch, hce, hca]) (hc _ (List.mem_of_getElem? (ga_some hk'))) rfl (Y_go 2000 ?_)
    (repeat' (first
    | (simp (disch := (first | omega | (simp only [List.length_map, List.length_append, List.length_cons, List.length_nil, List.length_set, List.length_replicate, List.length_take, List.length_drop] <;> omega) | fail)) only [yw0, yw1, yw2, yw3, yw4, yw5, yw6, yw7, tch, pld, pld1, psub, alleq, tvL, tv, Int.reduceToNat, PV.cld, PV.cldL, PV.sca, PV.scaL, elemOf, chunk, pbsl, pext, pfld, papart, psto, pblk, pkill, ↓reduceIte, Nat.reduceEqDiff, Nat.reduceAdd, Nat.reduceSub, Nat.reduceMul, Nat.reduceDiv, Nat.reduceLeDiff, Int.reduceEq, Int.reduceLT, Int.reduceLE, Int.reduceNeg, decide_true, decide_false, reduceCtorEq, and_self, true_and, and_true, Option.some.injEq, exists_eq_left', Prod.mk.injEq, PV.res, PV.resL, offB, PB.froz, not_false_eq_true, not_true_eq_false, ite_true, ite_false, PV.ren, PV.renL, PB.ren, gval, beq_self_eq_true, eq_self, ptch])
    | (with_reducible refine ZB_d (fun h hd => ?_) (fun h hd => ?_) <;> first | (exfalso; omega) | (simp only [hd]))
    | (with_reducible refine ZG_d (fun h hd => ?_) (fun h hd => ?_) <;> first | (exfalso; omega) | (simp only [hd]))
    | (with_reducible refine ZRG_d (fun h hd => ?_) (fun h hd => ?_) <;> first | (exfalso; omega) | (simp only [hd]))
    | (with_reducible refine ZB_b' (fun hd => ?_) (fun hd => ?_) <;> simp only [hd])
    | (with_reducible refine ZG_b' (fun hd => ?_) (fun hd => ?_) <;> simp only [hd])
    | (with_reducible refine ZRG_b' (fun hd => ?_) (fun hd => ?_) <;> simp only [hd])
    | (with_reducible refine Y_regd ?ok (fun l' hl' => YR_go ?_); (case ok => kernel_rfl))
    | assumption
    | omega))
    · rw [hr, if_pos ‹_›]
      exact Wv_le 9 (by simp only [yw0, yw1, yw2, yw3, yw4, yw5, yw6, yw7, tch, pld, pld1, psub, alleq, tvL, tv, Int.reduceToNat, PV.cld, PV.cldL, PV.sca, PV.scaL, elemOf, chunk, pbsl, pext, pfld, papart, psto, pblk, pkill, ↓reduceIte, Nat.reduceEqDiff, Nat.reduceAdd, Nat.reduceSub, Nat.reduceMul, Nat.reduceDiv, Nat.reduceLeDiff, Int.reduceEq, Int.reduceLT, Int.reduceLE, Int.reduceNeg, decide_true, decide_false, reduceCtorEq, and_self, true_and, and_true, Option.some.injEq, exists_eq_left', Prod.mk.injEq, PV.res, PV.resL, offB, PB.froz, not_false_eq_true, not_true_eq_false, ite_true, ite_false, PV.ren, PV.renL, PB.ren, gval, beq_self_eq_true, eq_self, ptch]; rfl) (by simp [ple_dd, ple_sn, ple_vs, ple_ag, ple_tu, ple_it, ple_bo, ple_n, ple_c, ple_pe])
    · rw [if_neg ‹_›] at hr
      refine hnext.h (k + 1) _ _ ⟨by omega, hr⟩ (by omega) (Wk_l [] (by simp) (fun b hb => by omega) (by decide) (by (simp (disch := (first | omega | (simp only [List.length_map, List.length_append, List.length_cons, List.length_nil, List.length_set, List.length_replicate, List.length_take, List.length_drop] <;> omega) | fail)) only [yw0, yw1, yw2, yw3, yw4, yw5, yw6, yw7, tch, pld, pld1, psub, alleq, tvL, tv, Int.reduceToNat, PV.cld, PV.cldL, PV.sca, PV.scaL, elemOf, chunk, pbsl, pext, pfld, papart, psto, pblk, pkill, ↓reduceIte, Nat.reduceEqDiff, Nat.reduceAdd, Nat.reduceSub, Nat.reduceMul, Nat.reduceDiv, Nat.reduceLeDiff, Int.reduceEq, Int.reduceLT, Int.reduceLE, Int.reduceNeg, decide_true, decide_false, reduceCtorEq, and_self, true_and, and_true, Option.some.injEq, exists_eq_left', Prod.mk.injEq, PV.res, PV.resL, offB, PB.froz, not_false_eq_true, not_true_eq_false, ite_true, ite_false, PV.ren, PV.renL, PB.ren, gval, beq_self_eq_true, eq_self, ptch, wke_n, wke_c, wkb_n, wkb_c, rho_0, rho_s, PV.ren, PV.renL, PV.bel, PV.belL, PB.ren, PB.bel, Bool.and_self, Bool.and_true, Bool.true_and, hcr, hcb] <;> (try simp (disch := (first | omega | (simp only [List.length_map, List.length_append, List.length_cons, List.length_nil, List.length_set, List.length_replicate, List.length_take, List.length_drop] <;> omega) | fail)) [hcr, hcb]) <;> (try rfl))) (by (simp (disch := (first | omega | (simp only [List.length_map, List.length_append, List.length_cons, List.length_nil, List.length_set, List.length_replicate, List.length_take, List.length_drop] <;> omega) | fail)) only [yw0, yw1, yw2, yw3, yw4, yw5, yw6, yw7, tch, pld, pld1, psub, alleq, tvL, tv, Int.reduceToNat, PV.cld, PV.cldL, PV.sca, PV.scaL, elemOf, chunk, pbsl, pext, pfld, papart, psto, pblk, pkill, ↓reduceIte, Nat.reduceEqDiff, Nat.reduceAdd, Nat.reduceSub, Nat.reduceMul, Nat.reduceDiv, Nat.reduceLeDiff, Int.reduceEq, Int.reduceLT, Int.reduceLE, Int.reduceNeg, decide_true, decide_false, reduceCtorEq, and_self, true_and, and_true, Option.some.injEq, exists_eq_left', Prod.mk.injEq, PV.res, PV.resL, offB, PB.froz, not_false_eq_true, not_true_eq_false, ite_true, ite_false, PV.ren, PV.renL, PB.ren, gval, beq_self_eq_true, eq_self, ptch, wke_n, wke_c, wkb_n, wkb_c, rho_0, rho_s, PV.ren, PV.renL, PV.bel, PV.belL, PB.ren, PB.bel, Bool.and_self, Bool.and_true, Bool.true_and, hcr, hcb] <;> (try simp (disch := (first | omega | (simp only [List.length_map, List.length_append, List.length_cons, List.length_nil, List.length_set, List.length_replicate, List.length_take, List.length_drop] <;> omega) | fail)) [hcr, hcb]) <;> (try rfl))))
  · have hk' : k = ys.length := by omega
    subst hk'
    rw [hr, List.drop_length]
    exact Wv_le 9 (by simp only [yw0, yw1, yw2, yw3, yw4, yw5, yw6, yw7, tch, pld, pld1, psub, alleq, tvL, tv, Int.reduceToNat, PV.cld, PV.cldL, PV.sca, PV.scaL, elemOf, chunk, pbsl, pext, pfld, papart, psto, pblk, pkill, ↓reduceIte, Nat.reduceEqDiff, Nat.reduceAdd, Nat.reduceSub, Nat.reduceMul, Nat.reduceDiv, Nat.reduceLeDiff, Int.reduceEq, Int.reduceLT, Int.reduceLE, Int.reduceNeg, decide_true, decide_false, reduceCtorEq, and_self, true_and, and_true, Option.some.injEq, exists_eq_left', Prod.mk.injEq, PV.res, PV.resL, offB, PB.froz, not_false_eq_true, not_true_eq_false, ite_true, ite_false, PV.ren, PV.renL, PB.ren, gval, beq_self_eq_true, eq_self, ptch]; rfl) (by simp [ple_dd, ple_sn, ple_vs, ple_ag, ple_tu, ple_it, ple_bo, ple_n, ple_c, ple_pe, findI])
def rfContainsFunc (g : FuncId) : RFun := ⟨9, [.t 4], .seq (.reg [⟨some 4, none, .v (.mv (.k (.bo false)))⟩]) (.seq (.reg [⟨some 5, none, .v (.mv (.t 0))⟩, ⟨some 6, none, .v (.mv (.t 1))⟩, ⟨some 7, none, .call g [.t 5, .t 6]⟩, ⟨some 8, none, .v (.bin .geq .no true (.t 7) (.k (.it .i64 0)))⟩, ⟨some 4, none, .v (.mv (.t 8))⟩]) .ret)⟩
theorem findI_any {α : Type} {p : α → Bool} : ∀ {l : List α} {k : Nat}, (0 ≤ findI p l k) ↔ l.any p = true
  | [], _ => by simp [findI]
  | x :: r, k => by
    simp only [findI, List.any_cons, Bool.or_eq_true]
    split
    · rename_i h; simp [h]
    · rename_i h; rw [findI_any (l := r)]; simp [h]
theorem containsFunc_gen {α : Type} [Inhabited α] {es : Nat} {f2 : FuncId} (hf : resF P f = some (rfContainsFunc f2)) (hf2 : resF P f2 = some (rfIndexFunc es true)) {g : FuncId} (hbd : Bd P g) (w : Nat) (ys : List α) (enc : α → List PV) (hlen : ∀ y, (enc y).length = es) (ca : List PV) (p : α → Bool)
    (hce : ∀ y, PV.resL [] 7 (enc y) = some (enc y)) (hca : PV.resL [] 9 ca = some ca) (hc7 : PV.resL [] 7 ca = some ca) (hcr : ∀ r, PV.renL r ca = ca) (hcb : PV.belL 0 ca = true) (hc : ∀ y ∈ ys, Pu P g (.ag (enc y) :: ca) [] (.bo (decide (p y = true)))) (hn : ys.length ≤ 1000000) :
    Pu P f [.vs w es (ys.map fun y => .ag (enc y)), .fn (.func g) [] ca] [] (.bo (decide (ys.any p = true))) := by
  refine pu_of_Y hf (Nat.le_of_ble_eq_true rfl) (Y_go 2000 ?_)
  simp only [rfContainsFunc]
  (repeat' (first
    | (simp (disch := (first | omega | (simp only [List.length_map, List.length_append, List.length_cons, List.length_nil, List.length_set, List.length_replicate, List.length_take, List.length_drop] <;> omega) | fail)) only [yw0, yw1, yw2, yw3, yw4, yw5, yw6, yw7, tch, pld, pld1, psub, alleq, tvL, tv, Int.reduceToNat, PV.cld, PV.cldL, PV.sca, PV.scaL, elemOf, chunk, pbsl, pext, pfld, papart, psto, pblk, pkill, ↓reduceIte, Nat.reduceEqDiff, Nat.reduceAdd, Nat.reduceSub, Nat.reduceMul, Nat.reduceDiv, Nat.reduceLeDiff, Int.reduceEq, Int.reduceLT, Int.reduceLE, Int.reduceNeg, decide_true, decide_false, reduceCtorEq, and_self, true_and, and_true, Option.some.injEq, exists_eq_left', Prod.mk.injEq, PV.res, PV.resL, offB, PB.froz, not_false_eq_true, not_true_eq_false, ite_true, ite_false, PV.ren, PV.renL, PB.ren, gval, beq_self_eq_true, eq_self, ptch])
    | (with_reducible refine ZB_d (fun h hd => ?_) (fun h hd => ?_) <;> first | (exfalso; omega) | (simp only [hd]))
    | (with_reducible refine ZG_d (fun h hd => ?_) (fun h hd => ?_) <;> first | (exfalso; omega) | (simp only [hd]))
    | (with_reducible refine ZRG_d (fun h hd => ?_) (fun h hd => ?_) <;> first | (exfalso; omega) | (simp only [hd]))
    | (with_reducible refine ZB_b' (fun hd => ?_) (fun hd => ?_) <;> simp only [hd])
    | (with_reducible refine ZG_b' (fun hd => ?_) (fun hd => ?_) <;> simp only [hd])
    | (with_reducible refine ZRG_b' (fun hd => ?_) (fun hd => ?_) <;> simp only [hd])
    | (with_reducible refine Y_regd ?ok (fun l' hl' => YR_go ?_); (case ok => kernel_rfl))
    | assumption
    | omega))
  refine Y_lend 9 (as' := [.vs w es (ys.map fun y => .ag (enc y)), .fn (.func g) [] ca]) (by simp only [yw0, yw1, yw2, yw3, yw4, yw5, yw6, yw7, tch, pld, pld1, psub, alleq, tvL, tv, Int.reduceToNat, PV.cld, PV.cldL, PV.sca, PV.scaL, elemOf, chunk, pbsl, pext, pfld, papart, psto, pblk, pkill, ↓reduceIte, Nat.reduceEqDiff, Nat.reduceAdd, Nat.reduceSub, Nat.reduceMul, Nat.reduceDiv, Nat.reduceLeDiff, Int.reduceEq, Int.reduceLT, Int.reduceLE, Int.reduceNeg, decide_true, decide_false, reduceCtorEq, and_self, true_and, and_true, Option.some.injEq, exists_eq_left', Prod.mk.injEq, PV.res, PV.resL, offB, PB.froz, not_false_eq_true, not_true_eq_false, ite_true, ite_false, PV.ren, PV.renL, PB.ren, gval, beq_self_eq_true, eq_self, ptch, hc7]) (indexFunc_gen hf2 hbd w ys enc hlen ca p hce hca hcr hcb hc hn) rfl (Y_go 2000 ?_)
  (repeat' (first
    | (simp (disch := (first | omega | (simp only [List.length_map, List.length_append, List.length_cons, List.length_nil, List.length_set, List.length_replicate, List.length_take, List.length_drop] <;> omega) | fail)) only [yw0, yw1, yw2, yw3, yw4, yw5, yw6, yw7, tch, pld, pld1, psub, alleq, tvL, tv, Int.reduceToNat, PV.cld, PV.cldL, PV.sca, PV.scaL, elemOf, chunk, pbsl, pext, pfld, papart, psto, pblk, pkill, ↓reduceIte, Nat.reduceEqDiff, Nat.reduceAdd, Nat.reduceSub, Nat.reduceMul, Nat.reduceDiv, Nat.reduceLeDiff, Int.reduceEq, Int.reduceLT, Int.reduceLE, Int.reduceNeg, decide_true, decide_false, reduceCtorEq, and_self, true_and, and_true, Option.some.injEq, exists_eq_left', Prod.mk.injEq, PV.res, PV.resL, offB, PB.froz, not_false_eq_true, not_true_eq_false, ite_true, ite_false, PV.ren, PV.renL, PB.ren, gval, beq_self_eq_true, eq_self, ptch])
    | (with_reducible refine ZB_d (fun h hd => ?_) (fun h hd => ?_) <;> first | (exfalso; omega) | (simp only [hd]))
    | (with_reducible refine ZG_d (fun h hd => ?_) (fun h hd => ?_) <;> first | (exfalso; omega) | (simp only [hd]))
    | (with_reducible refine ZRG_d (fun h hd => ?_) (fun h hd => ?_) <;> first | (exfalso; omega) | (simp only [hd]))
    | (with_reducible refine ZB_b' (fun hd => ?_) (fun hd => ?_) <;> simp only [hd])
    | (with_reducible refine ZG_b' (fun hd => ?_) (fun hd => ?_) <;> simp only [hd])
    | (with_reducible refine ZRG_b' (fun hd => ?_) (fun hd => ?_) <;> simp only [hd])
    | (with_reducible refine Y_regd ?ok (fun l' hl' => YR_go ?_); (case ok => kernel_rfl))
    | assumption
    | omega))
  exact Wv_le 9 (by simp only [yw0, yw1, yw2, yw3, yw4, yw5, yw6, yw7, tch, pld, pld1, psub, alleq, tvL, tv, Int.reduceToNat, PV.cld, PV.cldL, PV.sca, PV.scaL, elemOf, chunk, pbsl, pext, pfld, papart, psto, pblk, pkill, ↓reduceIte, Nat.reduceEqDiff, Nat.reduceAdd, Nat.reduceSub, Nat.reduceMul, Nat.reduceDiv, Nat.reduceLeDiff, Int.reduceEq, Int.reduceLT, Int.reduceLE, Int.reduceNeg, decide_true, decide_false, reduceCtorEq, and_self, true_and, and_true, Option.some.injEq, exists_eq_left', Prod.mk.injEq, PV.res, PV.resL, offB, PB.froz, not_false_eq_true, not_true_eq_false, ite_true, ite_false, PV.ren, PV.renL, PB.ren, gval, beq_self_eq_true, eq_self, ptch]; rfl) (by simp only [ple_dd, ple_sn, ple_vs, ple_ag, ple_tu, ple_it, ple_bo, ple_n, ple_c, ple_pe, decide_eq_decide]; exact findI_any)
end
end Go.AX
