/- Parts: RfA CsA CsB CrF. -/
import Derived.Test.YtgmacflaicapaaaGxB
import Derived.Test.YtgmacflaicapaaaProg
import Derived.KernelRfl
import Derived.Test.YtgmacflaicapaaaGeB
section
set_option maxRecDepth 100000
namespace Go.AX
open Go
abbrev fn_crc_Table : FuncId := 58
def rf_crc_Table : RFun := ⟨22, [.c 0 256], .seq (.reg [⟨some 0, none, .v (.alloc (List.replicate 256 (.it .u32 0)))⟩]) (.seq (.seq (.reg [⟨some 3, none, .v (.mv (.k (.it .i64 0)))⟩]) (.block 0 (.loop (.seq (.reg [⟨some 4, none, .v (.bin .lss .no true (.t 3) (.k (.it .i64 256)))⟩]) (.seq (.cond (.t 4) .skip (.exit 0)) (.seq (.block 1 (.seq (.reg [⟨some 5, none, .v (.mv (.t 3))⟩, ⟨some 1, none, .v (.mv (.t 5))⟩]) (.seq (.reg [⟨some 6, none, .v (.mv (.t 1))⟩, ⟨some 7, none, .v (.cvi .u32 (.t 6))⟩, ⟨some 2, none, .v (.mv (.t 7))⟩]) (.seq (.seq (.reg [⟨some 8, none, .v (.mv (.k (.it .i64 0)))⟩]) (.block 2 (.loop (.seq (.reg [⟨some 9, none, .v (.bin .lss .no true (.t 8) (.k (.it .i64 8)))⟩]) (.seq (.cond (.t 9) .skip (.exit 2)) (.seq (.block 3 (.reg [⟨some 10, none, .v (.mv (.t 2))⟩, ⟨some 11, none, .v (.bin .shr .no true (.t 10) (.k (.it .u64 1)))⟩, ⟨some 12, none, .v (.mv (.t 2))⟩, ⟨some 13, none, .v (.bin .and .no true (.t 12) (.k (.it .u32 1)))⟩, ⟨some 14, none, .v (.bin .mul .no true (.k (.it .u32 3988292384)) (.t 13))⟩, ⟨some 15, none, .v (.bin .xor .no false (.t 11) (.t 14))⟩, ⟨some 2, none, .v (.mv (.t 15))⟩])) (.reg [⟨some 16, none, .v (.bin .add .no true (.t 8) (.k (.it .i64 1)))⟩, ⟨some 8, none, .v (.mv (.t 16))⟩]))))))) (.reg [⟨some 17, none, .v (.mv (.t 1))⟩, ⟨some 18, none, .v (.mv (.t 2))⟩, ⟨some 19, none, .v (.iaa 256 1 (.t 0) (.t 17))⟩, ⟨none, none, .v (.sto 1 (.t 19) (.t 18))⟩]))))) (.reg [⟨some 20, none, .v (.bin .add .no true (.t 3) (.k (.it .i64 1)))⟩, ⟨some 3, none, .v (.mv (.t 20))⟩]))))))) (.seq (.reg [⟨some 21, none, .v (.ld 256 (.t 0))⟩, ⟨none, none, .v (.sto 256 (.t 0) (.t 21))⟩]) .ret))⟩
theorem rf_crc_Table_ok : resF Go.Proofs.Try.prog fn_crc_Table = some rf_crc_Table := by kernel_rfl
abbrev fn_crc_Update : FuncId := 57
def rf_crc_Update : RFun := ⟨26, [.t 6], .seq (.reg [⟨some 3, none, .v (.box (.t 0))⟩, ⟨some 6, none, .v (.mv (.k (.it .u32 0)))⟩]) (.seq (.seq (.reg [⟨some 9, none, .v (.mv (.t 2))⟩, ⟨some 10, none, .v (.len 1 (.t 9))⟩, ⟨some 11, none, .v (.mv (.k (.it .i64 0)))⟩]) (.block 0 (.loop (.seq (.reg [⟨some 12, none, .v (.bin .lss .no false (.t 11) (.t 10))⟩]) (.seq (.cond (.t 12) .skip (.exit 0)) (.seq (.block 1 (.seq (.reg [⟨some 13, none, .v (.ia 1 (.t 9) (.t 11))⟩, ⟨some 14, none, .v (.ld1 (.t 13))⟩, ⟨some 8, none, .v (.mv (.t 14))⟩]) (.reg [⟨some 15, none, .v (.mv (.t 1))⟩, ⟨some 16, none, .v (.cvi .u8 (.t 15))⟩, ⟨some 17, none, .v (.mv (.t 8))⟩, ⟨some 18, none, .v (.bin .xor .no false (.t 16) (.t 17))⟩, ⟨some 19, none, .v (.iaa 256 1 (.t 3) (.t 18))⟩, ⟨some 20, none, .v (.ld1 (.t 19))⟩, ⟨some 21, none, .v (.mv (.t 1))⟩, ⟨some 22, none, .v (.bin .shr .no true (.t 21) (.k (.it .u64 8)))⟩, ⟨some 23, none, .v (.bin .xor .no false (.t 20) (.t 22))⟩, ⟨some 1, none, .v (.mv (.t 23))⟩]))) (.reg [⟨some 24, none, .v (.bin .add .no true (.t 11) (.k (.it .i64 1)))⟩, ⟨some 11, none, .v (.mv (.t 24))⟩]))))))) (.seq (.reg [⟨some 25, none, .v (.mv (.t 1))⟩, ⟨some 6, none, .v (.mv (.t 25))⟩]) .ret))⟩
theorem rf_crc_Update_ok : resF Go.Proofs.Try.prog fn_crc_Update = some rf_crc_Update := by kernel_rfl
abbrev fn_crc_Sum : FuncId := 27
def rf_crc_Sum : RFun := ⟨7, [.t 2], .seq (.reg [⟨some 2, none, .v (.mv (.k (.it .u32 0)))⟩]) (.seq (.reg [⟨some 3, none, .call 58 []⟩, ⟨some 4, none, .v (.mv (.t 0))⟩, ⟨some 5, none, .call 57 [.t 3, .k (.it .u32 4294967295), .t 4]⟩, ⟨some 6, none, .v (.bin .xor .no true (.t 5) (.k (.it .u32 4294967295)))⟩, ⟨some 2, none, .v (.mv (.t 6))⟩]) .ret)⟩
theorem rf_crc_Sum_ok : resF Go.Proofs.Try.prog fn_crc_Sum = some rf_crc_Sum := by kernel_rfl
end Go.AX
end
section
set_option linter.unusedSimpArgs false
set_option linter.unusedVariables false
namespace Go.AX
open Go
theorem bits_xor32 {a b : Nat} (ha : a < 4294967296) (hb : b < 4294967296) : Go.bits .xor .u32 (a : Int) (b : Int) = ((a ^^^ b : Nat) : Int) := by
  have h : (a ^^^ b) < 4294967296 := Nat.xor_lt_two_pow (n := 32) ha hb
  show IntKind.u32.wrap (((BitVec.ofInt 32 (a : Int) ^^^ BitVec.ofInt 32 (b : Int)).toNat : Nat) : Int) = _
  rw [IntKind.wrap_u32, BitVec.toNat_xor, BitVec.ofInt_natCast, BitVec.ofInt_natCast, BitVec.toNat_ofNat, BitVec.toNat_ofNat, Nat.mod_eq_of_lt (show a < 2 ^ 32 from ha), Nat.mod_eq_of_lt (show b < 2 ^ 32 from hb)]
  omega
theorem bits_and32 {a b : Nat} (ha : a < 4294967296) (hb : b < 4294967296) : Go.bits .and .u32 (a : Int) (b : Int) = ((a &&& b : Nat) : Int) := by
  have h : (a &&& b) < 4294967296 := Nat.and_lt_two_pow (n := 32) a hb
  show IntKind.u32.wrap (((BitVec.ofInt 32 (a : Int) &&& BitVec.ofInt 32 (b : Int)).toNat : Nat) : Int) = _
  rw [IntKind.wrap_u32, BitVec.toNat_and, BitVec.ofInt_natCast, BitVec.ofInt_natCast, BitVec.toNat_ofNat, BitVec.toNat_ofNat, Nat.mod_eq_of_lt (show a < 2 ^ 32 from ha), Nat.mod_eq_of_lt (show b < 2 ^ 32 from hb)]
  omega
theorem bits_xor8 {a b : Nat} (ha : a < 256) (hb : b < 256) : Go.bits .xor .u8 (a : Int) (b : Int) = ((a ^^^ b : Nat) : Int) := by
  have h : (a ^^^ b) < 256 := Nat.xor_lt_two_pow (n := 8) ha hb
  show IntKind.u8.wrap (((BitVec.ofInt 8 (a : Int) ^^^ BitVec.ofInt 8 (b : Int)).toNat : Nat) : Int) = _
  rw [IntKind.wrap_u8, BitVec.toNat_xor, BitVec.ofInt_natCast, BitVec.ofInt_natCast, BitVec.toNat_ofNat, BitVec.toNat_ofNat, Nat.mod_eq_of_lt (show a < 2 ^ 8 from ha), Nat.mod_eq_of_lt (show b < 2 ^ 8 from hb)]
  omega
structure ExtW (H H' : AH) : Prop where
  x : Ext H H'
  wf : (∀ b, H.nx ≤ b → H.g b = .no) → ∀ b, H'.nx ≤ b → H'.g b = .no
theorem ExtW.trans {H H1 H2 : AH} (a : ExtW H H1) (b : ExtW H1 H2) : ExtW H H2 := ⟨a.x.trans b.x, fun h => b.wf (a.wf h)⟩
theorem ExtW.al (H : AH) (l : List AV) : ExtW H (H.al l) := ⟨Ext.al H l, fun h b hb => by
  simp only [AH.al] at hb ⊢
  rw [if_neg (by omega)]; exact h b (by omega)⟩
def cd (c : Nat) : Nat := if c % 2 = 1 then (c / 2) ^^^ 3988292384 else c / 2
def cdn : Nat → Nat → Nat
  | 0, c => c
  | n + 1, c => cdn n (cd c)
theorem cd_lt {c : Nat} (h : c < 4294967296) : cd c < 4294967296 := by
  unfold cd
  split
  · exact Nat.xor_lt_two_pow (n := 32) (by omega) (by decide)
  · omega
theorem cdn_lt : ∀ {n c : Nat}, c < 4294967296 → cdn n c < 4294967296
  | 0, _, h => h
  | n + 1, c, h => cdn_lt (n := n) (cd_lt h)
theorem u32_n {a : Nat} (h : a < 4294967296) : IntKind.u32.wrap (a : Int) = a := by rw [IntKind.wrap_u32]; omega
theorem i64_s {a : Nat} (h : a < 9223372036854775807) : IntKind.i64.wrap ((a : Int) + 1) = ((a + 1 : Nat) : Int) := by rw [IntKind.wrap_i64]; omega
def tabL (T : Nat → Nat) : List AV := (List.range 256).map fun (i : Nat) => AV.it .u32 (T i : Nat)
theorem tabL_at {T : Nat → Nat} {y : Nat} (h : y < 256) : (tabL T)[y]? = some (.it .u32 (T y : Nat)) := by simp [tabL, h]
theorem tabL_len {T : Nat → Nat} : (tabL T).length = 256 := by simp [tabL]
theorem splice_one {l : List AV} {n : Nat} {v : AV} (h : n < l.length) : splice l n [v] = l.set n v := by
  rw [List.set_eq_take_append_cons_drop, if_pos h]; rfl
theorem al_up {H : AH} {l m : List AV} : (H.al l).up H.nx m = H.al m := by
  unfold AH.up AH.al
  congr 1
  funext x
  by_cases h : x = H.nx <;> simp [h]
structure TabTo (l : List AV) (n : Nat) : Prop where
  len : l.length = 256
  get : ∀ i, i < n → l[i]? = some (.it .u32 (cdn 8 i : Nat))
theorem TabTo.put {l : List AV} {n : Nat} (h : TabTo l n) (hn : n < 256) : TabTo (l.set n (.it .u32 (cdn 8 n : Nat))) (n + 1) := by
  refine ⟨by simp [h.len], fun i hi => ?_⟩
  rw [List.getElem?_set]
  by_cases he : n = i
  · subst he; simp [h.len, hn]
  · rw [if_neg he]; exact h.get i (by omega)
theorem TabTo.all {l : List AV} (h : TabTo l 256) : l = tabL (cdn 8) := by
  apply List.ext_getElem?
  intro i
  by_cases hi : i < 256
  · rw [h.get i hi, tabL_at hi]
  · rw [List.getElem?_eq_none (by rw [h.len]; omega), List.getElem?_eq_none (by rw [tabL_len]; omega)]
theorem cd_shr (x : Nat) (hx : x < 4294967296) : cd x = (x / 2) ^^^ (3988292384 * (x &&& 1)) := by
  unfold cd
  rw [Nat.and_one_is_mod]
  split
  · rename_i h; rw [h]
  · have : x % 2 = 0 := by omega
    rw [this]; simp
theorem viaa_n {n es b o y : Nat} {k : IntKind} (h : y < n) : viaa n es (.pt b o) (.it k (y : Int)) = some (.pt b (o + y * es)) := by
  simp [viaa, h]
theorem wr_al {H : AH} {l m : List AV} {o : Nat} (h : o + m.length ≤ l.length) : (H.al l).wr H.nx o m = some (H.al (splice l o m)) := by
  simp only [AH.wr, al_new, if_pos h, al_up]
theorem rd_al {H : AH} {l : List AV} {n : Nat} (h : l.length = n) : (H.al l).rd H.nx 0 n = some l := by
  simp [AH.rd, al_new, Blk.cells, ← h]
theorem table_law (H : AH) : Call Go.Proofs.Try.prog fn_crc_Table [] H fun r H' => r = .ret (.ag (tabL (cdn 8))) ∧ ExtW H H' := by
  refine call_of_X rf_crc_Table_ok (Nat.le_of_ble_eq_true rfl) ?_
  simp only [rf_crc_Table, ↓X_nil, ↓X_ret, ↓X_blk, ↓X_skip, ↓X_reg, ↓X_seq, ↓X_block, ↓X_onil, ↓X_exit_hit, ↓X_exit_c, ↓X_exit_o, ↓X_exit_lp, ↓X_exit_blk, ↓X_cond, AtB_t, AtB_f, AtV_some, ↓X_ov, ↓X_oc, ↓X_og, AtG_tt, AtG_ff, AtG_tf, AtG_ft, ↓X_regd, ↓XD_nil, ↓XD_v, ↓XD_c, DtV_some, Rechks_nil, Rechks_cons, Rechk_n, RkG_tt, RkG_ff, RkG_tf, RkG_ft, sameB_pt, sameB_sl, VOp.cls, DtG_tt, DtG_ff, DtG_tf, DtG_ft, FinV_ret, AtR_some, rtup_one, rtup_nil, rtup_two, rvals, put_some, put_none, st_ap, ev_t, ev_k, ev_f, env_0, env_s, env_n, vals_nil, vals_cons, vop, vbin_add, vbin_sub, vbin_mul, vbin_quo, vbin_rem, vbin_and, vbin_or, vbin_xor, vbin_andNot, vbin_eql, vbin_neq, vbin_lss, vbin_leq, vbin_gtr, vbin_geq, vbin_shl, vbin_shr, vbin_beq, vbin_bne, vun_not, vcvi_it, pick_t, pick_f, Option.map_some, Option.map_none, Option.bind_some, Option.bind_none, ↓reduceIte, Nat.reduceEqDiff, Nat.reduceAdd, Nat.reduceSub, Int.reduceEq, Int.reduceLT, Int.reduceLE, decide_true, decide_false, Bool.not_true, Bool.not_false, reduceCtorEq, and_self, true_and, and_true]
  refine X_while (σ := Nat × List AV) (fun s E1 H1 => H1 = H.al s.2 ∧ s.1 ≤ 256 ∧ TabTo s.2 s.1 ∧ E1 3 = .it .i64 s.1 ∧ E1 0 = .pt H.nx 0) (fun s => 256 - s.1) (0, List.replicate 256 (.it .u32 0)) ⟨rfl, Nat.zero_le _, ⟨List.length_replicate .., fun i h => absurd h (Nat.not_lt_zero i)⟩, by simp only [↓X_nil, ↓X_ret, ↓X_blk, ↓X_skip, ↓X_reg, ↓X_seq, ↓X_block, ↓X_onil, ↓X_exit_hit, ↓X_exit_c, ↓X_exit_o, ↓X_exit_lp, ↓X_exit_blk, ↓X_cond, AtB_t, AtB_f, AtV_some, ↓X_ov, ↓X_oc, ↓X_og, AtG_tt, AtG_ff, AtG_tf, AtG_ft, ↓X_regd, ↓XD_nil, ↓XD_v, ↓XD_c, DtV_some, Rechks_nil, Rechks_cons, Rechk_n, RkG_tt, RkG_ff, RkG_tf, RkG_ft, sameB_pt, sameB_sl, VOp.cls, DtG_tt, DtG_ff, DtG_tf, DtG_ft, FinV_ret, AtR_some, rtup_one, rtup_nil, rtup_two, rvals, put_some, put_none, st_ap, ev_t, ev_k, ev_f, env_0, env_s, env_n, vals_nil, vals_cons, vop, vbin_add, vbin_sub, vbin_mul, vbin_quo, vbin_rem, vbin_and, vbin_or, vbin_xor, vbin_andNot, vbin_eql, vbin_neq, vbin_lss, vbin_leq, vbin_gtr, vbin_geq, vbin_shl, vbin_shr, vbin_beq, vbin_bne, vun_not, vcvi_it, pick_t, pick_f, Option.map_some, Option.map_none, Option.bind_some, Option.bind_none, ↓reduceIte, Nat.reduceEqDiff, Nat.reduceAdd, Nat.reduceSub, Int.reduceEq, Int.reduceLT, Int.reduceLE, decide_true, decide_false, Bool.not_true, Bool.not_false, reduceCtorEq, and_self, true_and, and_true]; rfl, by simp only [↓X_nil, ↓X_ret, ↓X_blk, ↓X_skip, ↓X_reg, ↓X_seq, ↓X_block, ↓X_onil, ↓X_exit_hit, ↓X_exit_c, ↓X_exit_o, ↓X_exit_lp, ↓X_exit_blk, ↓X_cond, AtB_t, AtB_f, AtV_some, ↓X_ov, ↓X_oc, ↓X_og, AtG_tt, AtG_ff, AtG_tf, AtG_ft, ↓X_regd, ↓XD_nil, ↓XD_v, ↓XD_c, DtV_some, Rechks_nil, Rechks_cons, Rechk_n, RkG_tt, RkG_ff, RkG_tf, RkG_ft, sameB_pt, sameB_sl, VOp.cls, DtG_tt, DtG_ff, DtG_tf, DtG_ft, FinV_ret, AtR_some, rtup_one, rtup_nil, rtup_two, rvals, put_some, put_none, st_ap, ev_t, ev_k, ev_f, env_0, env_s, env_n, vals_nil, vals_cons, vop, vbin_add, vbin_sub, vbin_mul, vbin_quo, vbin_rem, vbin_and, vbin_or, vbin_xor, vbin_andNot, vbin_eql, vbin_neq, vbin_lss, vbin_leq, vbin_gtr, vbin_geq, vbin_shl, vbin_shr, vbin_beq, vbin_bne, vun_not, vcvi_it, pick_t, pick_f, Option.map_some, Option.map_none, Option.bind_some, Option.bind_none, ↓reduceIte, Nat.reduceEqDiff, Nat.reduceAdd, Nat.reduceSub, Int.reduceEq, Int.reduceLT, Int.reduceLE, decide_true, decide_false, Bool.not_true, Bool.not_false, reduceCtorEq, and_self, true_and, and_true]⟩ ?_
  rintro ⟨i, l⟩ E1 H1 ⟨rfl, hi, hl, e3, e0⟩ hnext
  simp only at hi hl e3 e0 hnext
  by_cases h8 : i < 256
  · have h8' : (i : Int) < 256 := by omega
    have e1 : IntKind.u32.wrap (i : Int) = i := u32_n (by omega)
    have e4 : IntKind.i64.wrap ((i : Int) + 1) = ((i + 1 : Nat) : Int) := i64_s (by omega)
    simp only [↓X_nil, ↓X_ret, ↓X_blk, ↓X_skip, ↓X_reg, ↓X_seq, ↓X_block, ↓X_onil, ↓X_exit_hit, ↓X_exit_c, ↓X_exit_o, ↓X_exit_lp, ↓X_exit_blk, ↓X_cond, AtB_t, AtB_f, AtV_some, ↓X_ov, ↓X_oc, ↓X_og, AtG_tt, AtG_ff, AtG_tf, AtG_ft, ↓X_regd, ↓XD_nil, ↓XD_v, ↓XD_c, DtV_some, Rechks_nil, Rechks_cons, Rechk_n, RkG_tt, RkG_ff, RkG_tf, RkG_ft, sameB_pt, sameB_sl, VOp.cls, DtG_tt, DtG_ff, DtG_tf, DtG_ft, FinV_ret, AtR_some, rtup_one, rtup_nil, rtup_two, rvals, put_some, put_none, st_ap, ev_t, ev_k, ev_f, env_0, env_s, env_n, vals_nil, vals_cons, vop, vbin_add, vbin_sub, vbin_mul, vbin_quo, vbin_rem, vbin_and, vbin_or, vbin_xor, vbin_andNot, vbin_eql, vbin_neq, vbin_lss, vbin_leq, vbin_gtr, vbin_geq, vbin_shl, vbin_shr, vbin_beq, vbin_bne, vun_not, vcvi_it, pick_t, pick_f, Option.map_some, Option.map_none, Option.bind_some, Option.bind_none, ↓reduceIte, Nat.reduceEqDiff, Nat.reduceAdd, Nat.reduceSub, Int.reduceEq, Int.reduceLT, Int.reduceLE, decide_true, decide_false, Bool.not_true, Bool.not_false, reduceCtorEq, and_self, true_and, and_true, e3, e0, h8', e1]
    refine X_while (σ := Nat × Nat) (fun s E1 H1 => H1 = H.al l ∧ s.1 ≤ 8 ∧ s.2 < 4294967296 ∧ E1 8 = .it .i64 s.1 ∧ E1 2 = .it .u32 s.2 ∧ cdn (8 - s.1) s.2 = cdn 8 i ∧ E1 3 = .it .i64 i ∧ E1 0 = .pt H.nx 0 ∧ E1 1 = .it .i64 i) (fun s => 8 - s.1) (0, i)
      ⟨rfl, Nat.zero_le _, by simp only; omega, by simp only [↓X_nil, ↓X_ret, ↓X_blk, ↓X_skip, ↓X_reg, ↓X_seq, ↓X_block, ↓X_onil, ↓X_exit_hit, ↓X_exit_c, ↓X_exit_o, ↓X_exit_lp, ↓X_exit_blk, ↓X_cond, AtB_t, AtB_f, AtV_some, ↓X_ov, ↓X_oc, ↓X_og, AtG_tt, AtG_ff, AtG_tf, AtG_ft, ↓X_regd, ↓XD_nil, ↓XD_v, ↓XD_c, DtV_some, Rechks_nil, Rechks_cons, Rechk_n, RkG_tt, RkG_ff, RkG_tf, RkG_ft, sameB_pt, sameB_sl, VOp.cls, DtG_tt, DtG_ff, DtG_tf, DtG_ft, FinV_ret, AtR_some, rtup_one, rtup_nil, rtup_two, rvals, put_some, put_none, st_ap, ev_t, ev_k, ev_f, env_0, env_s, env_n, vals_nil, vals_cons, vop, vbin_add, vbin_sub, vbin_mul, vbin_quo, vbin_rem, vbin_and, vbin_or, vbin_xor, vbin_andNot, vbin_eql, vbin_neq, vbin_lss, vbin_leq, vbin_gtr, vbin_geq, vbin_shl, vbin_shr, vbin_beq, vbin_bne, vun_not, vcvi_it, pick_t, pick_f, Option.map_some, Option.map_none, Option.bind_some, Option.bind_none, ↓reduceIte, Nat.reduceEqDiff, Nat.reduceAdd, Nat.reduceSub, Int.reduceEq, Int.reduceLT, Int.reduceLE, decide_true, decide_false, Bool.not_true, Bool.not_false, reduceCtorEq, and_self, true_and, and_true]; rfl, by simp only [↓X_nil, ↓X_ret, ↓X_blk, ↓X_skip, ↓X_reg, ↓X_seq, ↓X_block, ↓X_onil, ↓X_exit_hit, ↓X_exit_c, ↓X_exit_o, ↓X_exit_lp, ↓X_exit_blk, ↓X_cond, AtB_t, AtB_f, AtV_some, ↓X_ov, ↓X_oc, ↓X_og, AtG_tt, AtG_ff, AtG_tf, AtG_ft, ↓X_regd, ↓XD_nil, ↓XD_v, ↓XD_c, DtV_some, Rechks_nil, Rechks_cons, Rechk_n, RkG_tt, RkG_ff, RkG_tf, RkG_ft, sameB_pt, sameB_sl, VOp.cls, DtG_tt, DtG_ff, DtG_tf, DtG_ft, FinV_ret, AtR_some, rtup_one, rtup_nil, rtup_two, rvals, put_some, put_none, st_ap, ev_t, ev_k, ev_f, env_0, env_s, env_n, vals_nil, vals_cons, vop, vbin_add, vbin_sub, vbin_mul, vbin_quo, vbin_rem, vbin_and, vbin_or, vbin_xor, vbin_andNot, vbin_eql, vbin_neq, vbin_lss, vbin_leq, vbin_gtr, vbin_geq, vbin_shl, vbin_shr, vbin_beq, vbin_bne, vun_not, vcvi_it, pick_t, pick_f, Option.map_some, Option.map_none, Option.bind_some, Option.bind_none, ↓reduceIte, Nat.reduceEqDiff, Nat.reduceAdd, Nat.reduceSub, Int.reduceEq, Int.reduceLT, Int.reduceLE, decide_true, decide_false, Bool.not_true, Bool.not_false, reduceCtorEq, and_self, true_and, and_true], rfl, by simp only [↓X_nil, ↓X_ret, ↓X_blk, ↓X_skip, ↓X_reg, ↓X_seq, ↓X_block, ↓X_onil, ↓X_exit_hit, ↓X_exit_c, ↓X_exit_o, ↓X_exit_lp, ↓X_exit_blk, ↓X_cond, AtB_t, AtB_f, AtV_some, ↓X_ov, ↓X_oc, ↓X_og, AtG_tt, AtG_ff, AtG_tf, AtG_ft, ↓X_regd, ↓XD_nil, ↓XD_v, ↓XD_c, DtV_some, Rechks_nil, Rechks_cons, Rechk_n, RkG_tt, RkG_ff, RkG_tf, RkG_ft, sameB_pt, sameB_sl, VOp.cls, DtG_tt, DtG_ff, DtG_tf, DtG_ft, FinV_ret, AtR_some, rtup_one, rtup_nil, rtup_two, rvals, put_some, put_none, st_ap, ev_t, ev_k, ev_f, env_0, env_s, env_n, vals_nil, vals_cons, vop, vbin_add, vbin_sub, vbin_mul, vbin_quo, vbin_rem, vbin_and, vbin_or, vbin_xor, vbin_andNot, vbin_eql, vbin_neq, vbin_lss, vbin_leq, vbin_gtr, vbin_geq, vbin_shl, vbin_shr, vbin_beq, vbin_bne, vun_not, vcvi_it, pick_t, pick_f, Option.map_some, Option.map_none, Option.bind_some, Option.bind_none, ↓reduceIte, Nat.reduceEqDiff, Nat.reduceAdd, Nat.reduceSub, Int.reduceEq, Int.reduceLT, Int.reduceLE, decide_true, decide_false, Bool.not_true, Bool.not_false, reduceCtorEq, and_self, true_and, and_true, e3], by simp only [↓X_nil, ↓X_ret, ↓X_blk, ↓X_skip, ↓X_reg, ↓X_seq, ↓X_block, ↓X_onil, ↓X_exit_hit, ↓X_exit_c, ↓X_exit_o, ↓X_exit_lp, ↓X_exit_blk, ↓X_cond, AtB_t, AtB_f, AtV_some, ↓X_ov, ↓X_oc, ↓X_og, AtG_tt, AtG_ff, AtG_tf, AtG_ft, ↓X_regd, ↓XD_nil, ↓XD_v, ↓XD_c, DtV_some, Rechks_nil, Rechks_cons, Rechk_n, RkG_tt, RkG_ff, RkG_tf, RkG_ft, sameB_pt, sameB_sl, VOp.cls, DtG_tt, DtG_ff, DtG_tf, DtG_ft, FinV_ret, AtR_some, rtup_one, rtup_nil, rtup_two, rvals, put_some, put_none, st_ap, ev_t, ev_k, ev_f, env_0, env_s, env_n, vals_nil, vals_cons, vop, vbin_add, vbin_sub, vbin_mul, vbin_quo, vbin_rem, vbin_and, vbin_or, vbin_xor, vbin_andNot, vbin_eql, vbin_neq, vbin_lss, vbin_leq, vbin_gtr, vbin_geq, vbin_shl, vbin_shr, vbin_beq, vbin_bne, vun_not, vcvi_it, pick_t, pick_f, Option.map_some, Option.map_none, Option.bind_some, Option.bind_none, ↓reduceIte, Nat.reduceEqDiff, Nat.reduceAdd, Nat.reduceSub, Int.reduceEq, Int.reduceLT, Int.reduceLE, decide_true, decide_false, Bool.not_true, Bool.not_false, reduceCtorEq, and_self, true_and, and_true, e0], by simp only [↓X_nil, ↓X_ret, ↓X_blk, ↓X_skip, ↓X_reg, ↓X_seq, ↓X_block, ↓X_onil, ↓X_exit_hit, ↓X_exit_c, ↓X_exit_o, ↓X_exit_lp, ↓X_exit_blk, ↓X_cond, AtB_t, AtB_f, AtV_some, ↓X_ov, ↓X_oc, ↓X_og, AtG_tt, AtG_ff, AtG_tf, AtG_ft, ↓X_regd, ↓XD_nil, ↓XD_v, ↓XD_c, DtV_some, Rechks_nil, Rechks_cons, Rechk_n, RkG_tt, RkG_ff, RkG_tf, RkG_ft, sameB_pt, sameB_sl, VOp.cls, DtG_tt, DtG_ff, DtG_tf, DtG_ft, FinV_ret, AtR_some, rtup_one, rtup_nil, rtup_two, rvals, put_some, put_none, st_ap, ev_t, ev_k, ev_f, env_0, env_s, env_n, vals_nil, vals_cons, vop, vbin_add, vbin_sub, vbin_mul, vbin_quo, vbin_rem, vbin_and, vbin_or, vbin_xor, vbin_andNot, vbin_eql, vbin_neq, vbin_lss, vbin_leq, vbin_gtr, vbin_geq, vbin_shl, vbin_shr, vbin_beq, vbin_bne, vun_not, vcvi_it, pick_t, pick_f, Option.map_some, Option.map_none, Option.bind_some, Option.bind_none, ↓reduceIte, Nat.reduceEqDiff, Nat.reduceAdd, Nat.reduceSub, Int.reduceEq, Int.reduceLT, Int.reduceLE, decide_true, decide_false, Bool.not_true, Bool.not_false, reduceCtorEq, and_self, true_and, and_true]⟩ ?_
    rintro ⟨q, x⟩ E2 H2 ⟨rfl, hq, hx, e8, e2, hr, f3, f0, f1⟩ hnext2
    simp only at hq hx e8 e2 hr f3 f0 f1 hnext2
    by_cases hq8 : q < 8
    · have hq8' : (q : Int) < 8 := by omega
      have hs : cdn (8 - (q + 1)) (cd x) = cdn 8 i := by
        rw [← hr, show 8 - q = (8 - (q + 1)) + 1 by omega]; rfl
      have g1 : Int.fdiv (x : Int) (2 ^ (min (Int.toNat 1) IntKind.u32.bits)) = ((x / 2 : Nat) : Int) := by
        show Int.fdiv (x : Int) ((2 : Nat) : Int) = _
        exact (Int.ofNat_fdiv x 2).symm
      have g2 : Go.bits .and .u32 (x : Int) 1 = ((x &&& 1 : Nat) : Int) := bits_and32 (b := 1) hx (by decide)
      have hle : x &&& 1 ≤ 1 := Nat.and_le_right
      have g3 : IntKind.u32.wrap (3988292384 * ((x &&& 1 : Nat) : Int)) = ((3988292384 * (x &&& 1) : Nat) : Int) := u32_n (a := 3988292384 * (x &&& 1)) (by omega)
      have g4 : Go.bits .xor .u32 ((x / 2 : Nat) : Int) ((3988292384 * (x &&& 1) : Nat) : Int) = ((cd x : Nat) : Int) := by
        rw [bits_xor32 (by omega) (by omega), cd_shr x hx]
      have g5 : IntKind.i64.wrap ((q : Int) + 1) = ((q + 1 : Nat) : Int) := i64_s (by omega)
      simp only [↓X_nil, ↓X_ret, ↓X_blk, ↓X_skip, ↓X_reg, ↓X_seq, ↓X_block, ↓X_onil, ↓X_exit_hit, ↓X_exit_c, ↓X_exit_o, ↓X_exit_lp, ↓X_exit_blk, ↓X_cond, AtB_t, AtB_f, AtV_some, ↓X_ov, ↓X_oc, ↓X_og, AtG_tt, AtG_ff, AtG_tf, AtG_ft, ↓X_regd, ↓XD_nil, ↓XD_v, ↓XD_c, DtV_some, Rechks_nil, Rechks_cons, Rechk_n, RkG_tt, RkG_ff, RkG_tf, RkG_ft, sameB_pt, sameB_sl, VOp.cls, DtG_tt, DtG_ff, DtG_tf, DtG_ft, FinV_ret, AtR_some, rtup_one, rtup_nil, rtup_two, rvals, put_some, put_none, st_ap, ev_t, ev_k, ev_f, env_0, env_s, env_n, vals_nil, vals_cons, vop, vbin_add, vbin_sub, vbin_mul, vbin_quo, vbin_rem, vbin_and, vbin_or, vbin_xor, vbin_andNot, vbin_eql, vbin_neq, vbin_lss, vbin_leq, vbin_gtr, vbin_geq, vbin_shl, vbin_shr, vbin_beq, vbin_bne, vun_not, vcvi_it, pick_t, pick_f, Option.map_some, Option.map_none, Option.bind_some, Option.bind_none, ↓reduceIte, Nat.reduceEqDiff, Nat.reduceAdd, Nat.reduceSub, Int.reduceEq, Int.reduceLT, Int.reduceLE, decide_true, decide_false, Bool.not_true, Bool.not_false, reduceCtorEq, and_self, true_and, and_true, e8, e2, hq8', g1, g2, g3, g4, g5]
      exact hnext2 (q + 1, cd x) _ _ (by simp only; omega) ⟨rfl, by simp only; omega, cd_lt hx, by simp only [↓X_nil, ↓X_ret, ↓X_blk, ↓X_skip, ↓X_reg, ↓X_seq, ↓X_block, ↓X_onil, ↓X_exit_hit, ↓X_exit_c, ↓X_exit_o, ↓X_exit_lp, ↓X_exit_blk, ↓X_cond, AtB_t, AtB_f, AtV_some, ↓X_ov, ↓X_oc, ↓X_og, AtG_tt, AtG_ff, AtG_tf, AtG_ft, ↓X_regd, ↓XD_nil, ↓XD_v, ↓XD_c, DtV_some, Rechks_nil, Rechks_cons, Rechk_n, RkG_tt, RkG_ff, RkG_tf, RkG_ft, sameB_pt, sameB_sl, VOp.cls, DtG_tt, DtG_ff, DtG_tf, DtG_ft, FinV_ret, AtR_some, rtup_one, rtup_nil, rtup_two, rvals, put_some, put_none, st_ap, ev_t, ev_k, ev_f, env_0, env_s, env_n, vals_nil, vals_cons, vop, vbin_add, vbin_sub, vbin_mul, vbin_quo, vbin_rem, vbin_and, vbin_or, vbin_xor, vbin_andNot, vbin_eql, vbin_neq, vbin_lss, vbin_leq, vbin_gtr, vbin_geq, vbin_shl, vbin_shr, vbin_beq, vbin_bne, vun_not, vcvi_it, pick_t, pick_f, Option.map_some, Option.map_none, Option.bind_some, Option.bind_none, ↓reduceIte, Nat.reduceEqDiff, Nat.reduceAdd, Nat.reduceSub, Int.reduceEq, Int.reduceLT, Int.reduceLE, decide_true, decide_false, Bool.not_true, Bool.not_false, reduceCtorEq, and_self, true_and, and_true], by simp only [↓X_nil, ↓X_ret, ↓X_blk, ↓X_skip, ↓X_reg, ↓X_seq, ↓X_block, ↓X_onil, ↓X_exit_hit, ↓X_exit_c, ↓X_exit_o, ↓X_exit_lp, ↓X_exit_blk, ↓X_cond, AtB_t, AtB_f, AtV_some, ↓X_ov, ↓X_oc, ↓X_og, AtG_tt, AtG_ff, AtG_tf, AtG_ft, ↓X_regd, ↓XD_nil, ↓XD_v, ↓XD_c, DtV_some, Rechks_nil, Rechks_cons, Rechk_n, RkG_tt, RkG_ff, RkG_tf, RkG_ft, sameB_pt, sameB_sl, VOp.cls, DtG_tt, DtG_ff, DtG_tf, DtG_ft, FinV_ret, AtR_some, rtup_one, rtup_nil, rtup_two, rvals, put_some, put_none, st_ap, ev_t, ev_k, ev_f, env_0, env_s, env_n, vals_nil, vals_cons, vop, vbin_add, vbin_sub, vbin_mul, vbin_quo, vbin_rem, vbin_and, vbin_or, vbin_xor, vbin_andNot, vbin_eql, vbin_neq, vbin_lss, vbin_leq, vbin_gtr, vbin_geq, vbin_shl, vbin_shr, vbin_beq, vbin_bne, vun_not, vcvi_it, pick_t, pick_f, Option.map_some, Option.map_none, Option.bind_some, Option.bind_none, ↓reduceIte, Nat.reduceEqDiff, Nat.reduceAdd, Nat.reduceSub, Int.reduceEq, Int.reduceLT, Int.reduceLE, decide_true, decide_false, Bool.not_true, Bool.not_false, reduceCtorEq, and_self, true_and, and_true], hs, by simp only [↓X_nil, ↓X_ret, ↓X_blk, ↓X_skip, ↓X_reg, ↓X_seq, ↓X_block, ↓X_onil, ↓X_exit_hit, ↓X_exit_c, ↓X_exit_o, ↓X_exit_lp, ↓X_exit_blk, ↓X_cond, AtB_t, AtB_f, AtV_some, ↓X_ov, ↓X_oc, ↓X_og, AtG_tt, AtG_ff, AtG_tf, AtG_ft, ↓X_regd, ↓XD_nil, ↓XD_v, ↓XD_c, DtV_some, Rechks_nil, Rechks_cons, Rechk_n, RkG_tt, RkG_ff, RkG_tf, RkG_ft, sameB_pt, sameB_sl, VOp.cls, DtG_tt, DtG_ff, DtG_tf, DtG_ft, FinV_ret, AtR_some, rtup_one, rtup_nil, rtup_two, rvals, put_some, put_none, st_ap, ev_t, ev_k, ev_f, env_0, env_s, env_n, vals_nil, vals_cons, vop, vbin_add, vbin_sub, vbin_mul, vbin_quo, vbin_rem, vbin_and, vbin_or, vbin_xor, vbin_andNot, vbin_eql, vbin_neq, vbin_lss, vbin_leq, vbin_gtr, vbin_geq, vbin_shl, vbin_shr, vbin_beq, vbin_bne, vun_not, vcvi_it, pick_t, pick_f, Option.map_some, Option.map_none, Option.bind_some, Option.bind_none, ↓reduceIte, Nat.reduceEqDiff, Nat.reduceAdd, Nat.reduceSub, Int.reduceEq, Int.reduceLT, Int.reduceLE, decide_true, decide_false, Bool.not_true, Bool.not_false, reduceCtorEq, and_self, true_and, and_true, f3], by simp only [↓X_nil, ↓X_ret, ↓X_blk, ↓X_skip, ↓X_reg, ↓X_seq, ↓X_block, ↓X_onil, ↓X_exit_hit, ↓X_exit_c, ↓X_exit_o, ↓X_exit_lp, ↓X_exit_blk, ↓X_cond, AtB_t, AtB_f, AtV_some, ↓X_ov, ↓X_oc, ↓X_og, AtG_tt, AtG_ff, AtG_tf, AtG_ft, ↓X_regd, ↓XD_nil, ↓XD_v, ↓XD_c, DtV_some, Rechks_nil, Rechks_cons, Rechk_n, RkG_tt, RkG_ff, RkG_tf, RkG_ft, sameB_pt, sameB_sl, VOp.cls, DtG_tt, DtG_ff, DtG_tf, DtG_ft, FinV_ret, AtR_some, rtup_one, rtup_nil, rtup_two, rvals, put_some, put_none, st_ap, ev_t, ev_k, ev_f, env_0, env_s, env_n, vals_nil, vals_cons, vop, vbin_add, vbin_sub, vbin_mul, vbin_quo, vbin_rem, vbin_and, vbin_or, vbin_xor, vbin_andNot, vbin_eql, vbin_neq, vbin_lss, vbin_leq, vbin_gtr, vbin_geq, vbin_shl, vbin_shr, vbin_beq, vbin_bne, vun_not, vcvi_it, pick_t, pick_f, Option.map_some, Option.map_none, Option.bind_some, Option.bind_none, ↓reduceIte, Nat.reduceEqDiff, Nat.reduceAdd, Nat.reduceSub, Int.reduceEq, Int.reduceLT, Int.reduceLE, decide_true, decide_false, Bool.not_true, Bool.not_false, reduceCtorEq, and_self, true_and, and_true, f0], by simp only [↓X_nil, ↓X_ret, ↓X_blk, ↓X_skip, ↓X_reg, ↓X_seq, ↓X_block, ↓X_onil, ↓X_exit_hit, ↓X_exit_c, ↓X_exit_o, ↓X_exit_lp, ↓X_exit_blk, ↓X_cond, AtB_t, AtB_f, AtV_some, ↓X_ov, ↓X_oc, ↓X_og, AtG_tt, AtG_ff, AtG_tf, AtG_ft, ↓X_regd, ↓XD_nil, ↓XD_v, ↓XD_c, DtV_some, Rechks_nil, Rechks_cons, Rechk_n, RkG_tt, RkG_ff, RkG_tf, RkG_ft, sameB_pt, sameB_sl, VOp.cls, DtG_tt, DtG_ff, DtG_tf, DtG_ft, FinV_ret, AtR_some, rtup_one, rtup_nil, rtup_two, rvals, put_some, put_none, st_ap, ev_t, ev_k, ev_f, env_0, env_s, env_n, vals_nil, vals_cons, vop, vbin_add, vbin_sub, vbin_mul, vbin_quo, vbin_rem, vbin_and, vbin_or, vbin_xor, vbin_andNot, vbin_eql, vbin_neq, vbin_lss, vbin_leq, vbin_gtr, vbin_geq, vbin_shl, vbin_shr, vbin_beq, vbin_bne, vun_not, vcvi_it, pick_t, pick_f, Option.map_some, Option.map_none, Option.bind_some, Option.bind_none, ↓reduceIte, Nat.reduceEqDiff, Nat.reduceAdd, Nat.reduceSub, Int.reduceEq, Int.reduceLT, Int.reduceLE, decide_true, decide_false, Bool.not_true, Bool.not_false, reduceCtorEq, and_self, true_and, and_true, f1]⟩
    · have hq8' : ¬ (q : Int) < 8 := by omega
      obtain rfl : q = 8 := by omega
      have hr : x = cdn 8 i := hr
      subst hr
      simp only [↓X_nil, ↓X_ret, ↓X_blk, ↓X_skip, ↓X_reg, ↓X_seq, ↓X_block, ↓X_onil, ↓X_exit_hit, ↓X_exit_c, ↓X_exit_o, ↓X_exit_lp, ↓X_exit_blk, ↓X_cond, AtB_t, AtB_f, AtV_some, ↓X_ov, ↓X_oc, ↓X_og, AtG_tt, AtG_ff, AtG_tf, AtG_ft, ↓X_regd, ↓XD_nil, ↓XD_v, ↓XD_c, DtV_some, Rechks_nil, Rechks_cons, Rechk_n, RkG_tt, RkG_ff, RkG_tf, RkG_ft, sameB_pt, sameB_sl, VOp.cls, DtG_tt, DtG_ff, DtG_tf, DtG_ft, FinV_ret, AtR_some, rtup_one, rtup_nil, rtup_two, rvals, put_some, put_none, st_ap, ev_t, ev_k, ev_f, env_0, env_s, env_n, vals_nil, vals_cons, vop, vbin_add, vbin_sub, vbin_mul, vbin_quo, vbin_rem, vbin_and, vbin_or, vbin_xor, vbin_andNot, vbin_eql, vbin_neq, vbin_lss, vbin_leq, vbin_gtr, vbin_geq, vbin_shl, vbin_shr, vbin_beq, vbin_bne, vun_not, vcvi_it, pick_t, pick_f, Option.map_some, Option.map_none, Option.bind_some, Option.bind_none, ↓reduceIte, Nat.reduceEqDiff, Nat.reduceAdd, Nat.reduceSub, Int.reduceEq, Int.reduceLT, Int.reduceLE, decide_true, decide_false, Bool.not_true, Bool.not_false, reduceCtorEq, and_self, true_and, and_true, e8, e2, hq8', f1, f0, f3, viaa_n h8, vsto, AV.cl, List.length_singleton, Nat.mul_one, Nat.zero_add, wr_al (H := H) (l := l) (o := i) (m := [.it .u32 (cdn 8 i : Nat)]) (by rw [hl.len]; exact h8), e4]
      refine hnext (i + 1, _) _ _ (by simp only; omega) ⟨rfl, by simp only; omega, ?_, by simp only [↓X_nil, ↓X_ret, ↓X_blk, ↓X_skip, ↓X_reg, ↓X_seq, ↓X_block, ↓X_onil, ↓X_exit_hit, ↓X_exit_c, ↓X_exit_o, ↓X_exit_lp, ↓X_exit_blk, ↓X_cond, AtB_t, AtB_f, AtV_some, ↓X_ov, ↓X_oc, ↓X_og, AtG_tt, AtG_ff, AtG_tf, AtG_ft, ↓X_regd, ↓XD_nil, ↓XD_v, ↓XD_c, DtV_some, Rechks_nil, Rechks_cons, Rechk_n, RkG_tt, RkG_ff, RkG_tf, RkG_ft, sameB_pt, sameB_sl, VOp.cls, DtG_tt, DtG_ff, DtG_tf, DtG_ft, FinV_ret, AtR_some, rtup_one, rtup_nil, rtup_two, rvals, put_some, put_none, st_ap, ev_t, ev_k, ev_f, env_0, env_s, env_n, vals_nil, vals_cons, vop, vbin_add, vbin_sub, vbin_mul, vbin_quo, vbin_rem, vbin_and, vbin_or, vbin_xor, vbin_andNot, vbin_eql, vbin_neq, vbin_lss, vbin_leq, vbin_gtr, vbin_geq, vbin_shl, vbin_shr, vbin_beq, vbin_bne, vun_not, vcvi_it, pick_t, pick_f, Option.map_some, Option.map_none, Option.bind_some, Option.bind_none, ↓reduceIte, Nat.reduceEqDiff, Nat.reduceAdd, Nat.reduceSub, Int.reduceEq, Int.reduceLT, Int.reduceLE, decide_true, decide_false, Bool.not_true, Bool.not_false, reduceCtorEq, and_self, true_and, and_true], by simp only [↓X_nil, ↓X_ret, ↓X_blk, ↓X_skip, ↓X_reg, ↓X_seq, ↓X_block, ↓X_onil, ↓X_exit_hit, ↓X_exit_c, ↓X_exit_o, ↓X_exit_lp, ↓X_exit_blk, ↓X_cond, AtB_t, AtB_f, AtV_some, ↓X_ov, ↓X_oc, ↓X_og, AtG_tt, AtG_ff, AtG_tf, AtG_ft, ↓X_regd, ↓XD_nil, ↓XD_v, ↓XD_c, DtV_some, Rechks_nil, Rechks_cons, Rechk_n, RkG_tt, RkG_ff, RkG_tf, RkG_ft, sameB_pt, sameB_sl, VOp.cls, DtG_tt, DtG_ff, DtG_tf, DtG_ft, FinV_ret, AtR_some, rtup_one, rtup_nil, rtup_two, rvals, put_some, put_none, st_ap, ev_t, ev_k, ev_f, env_0, env_s, env_n, vals_nil, vals_cons, vop, vbin_add, vbin_sub, vbin_mul, vbin_quo, vbin_rem, vbin_and, vbin_or, vbin_xor, vbin_andNot, vbin_eql, vbin_neq, vbin_lss, vbin_leq, vbin_gtr, vbin_geq, vbin_shl, vbin_shr, vbin_beq, vbin_bne, vun_not, vcvi_it, pick_t, pick_f, Option.map_some, Option.map_none, Option.bind_some, Option.bind_none, ↓reduceIte, Nat.reduceEqDiff, Nat.reduceAdd, Nat.reduceSub, Int.reduceEq, Int.reduceLT, Int.reduceLE, decide_true, decide_false, Bool.not_true, Bool.not_false, reduceCtorEq, and_self, true_and, and_true, f0]⟩
      show TabTo (splice l i [_]) (i + 1)
      rw [splice_one (by rw [hl.len]; exact h8)]
      exact hl.put h8
  · have h8' : ¬ (i : Int) < 256 := by omega
    obtain rfl : i = 256 := by omega
    have := hl.all
    subst this
    simp only [↓X_nil, ↓X_ret, ↓X_blk, ↓X_skip, ↓X_reg, ↓X_seq, ↓X_block, ↓X_onil, ↓X_exit_hit, ↓X_exit_c, ↓X_exit_o, ↓X_exit_lp, ↓X_exit_blk, ↓X_cond, AtB_t, AtB_f, AtV_some, ↓X_ov, ↓X_oc, ↓X_og, AtG_tt, AtG_ff, AtG_tf, AtG_ft, ↓X_regd, ↓XD_nil, ↓XD_v, ↓XD_c, DtV_some, Rechks_nil, Rechks_cons, Rechk_n, RkG_tt, RkG_ff, RkG_tf, RkG_ft, sameB_pt, sameB_sl, VOp.cls, DtG_tt, DtG_ff, DtG_tf, DtG_ft, FinV_ret, AtR_some, rtup_one, rtup_nil, rtup_two, rvals, put_some, put_none, st_ap, ev_t, ev_k, ev_f, env_0, env_s, env_n, vals_nil, vals_cons, vop, vbin_add, vbin_sub, vbin_mul, vbin_quo, vbin_rem, vbin_and, vbin_or, vbin_xor, vbin_andNot, vbin_eql, vbin_neq, vbin_lss, vbin_leq, vbin_gtr, vbin_geq, vbin_shl, vbin_shr, vbin_beq, vbin_bne, vun_not, vcvi_it, pick_t, pick_f, Option.map_some, Option.map_none, Option.bind_some, Option.bind_none, ↓reduceIte, Nat.reduceEqDiff, Nat.reduceAdd, Nat.reduceSub, Int.reduceEq, Int.reduceLT, Int.reduceLE, decide_true, decide_false, Bool.not_true, Bool.not_false, reduceCtorEq, and_self, true_and, and_true, e3, e0, h8', vld, rd_al tabL_len, vsto, AV.cl, tabL_len, wr_al (H := H) (l := tabL (cdn 8)) (o := 0) (m := tabL (cdn 8)) (by simp)]
    have : splice (tabL (cdn 8)) 0 (tabL (cdn 8)) = tabL (cdn 8) := by simp [splice]
    simp only [this, rd_al tabL_len, ↓X_nil, ↓X_ret, ↓X_blk, ↓X_skip, ↓X_reg, ↓X_seq, ↓X_block, ↓X_onil, ↓X_exit_hit, ↓X_exit_c, ↓X_exit_o, ↓X_exit_lp, ↓X_exit_blk, ↓X_cond, AtB_t, AtB_f, AtV_some, ↓X_ov, ↓X_oc, ↓X_og, AtG_tt, AtG_ff, AtG_tf, AtG_ft, ↓X_regd, ↓XD_nil, ↓XD_v, ↓XD_c, DtV_some, Rechks_nil, Rechks_cons, Rechk_n, RkG_tt, RkG_ff, RkG_tf, RkG_ft, sameB_pt, sameB_sl, VOp.cls, DtG_tt, DtG_ff, DtG_tf, DtG_ft, FinV_ret, AtR_some, rtup_one, rtup_nil, rtup_two, rvals, put_some, put_none, st_ap, ev_t, ev_k, ev_f, env_0, env_s, env_n, vals_nil, vals_cons, vop, vbin_add, vbin_sub, vbin_mul, vbin_quo, vbin_rem, vbin_and, vbin_or, vbin_xor, vbin_andNot, vbin_eql, vbin_neq, vbin_lss, vbin_leq, vbin_gtr, vbin_geq, vbin_shl, vbin_shr, vbin_beq, vbin_bne, vun_not, vcvi_it, pick_t, pick_f, Option.map_some, Option.map_none, Option.bind_some, Option.bind_none, ↓reduceIte, Nat.reduceEqDiff, Nat.reduceAdd, Nat.reduceSub, Int.reduceEq, Int.reduceLT, Int.reduceLE, decide_true, decide_false, Bool.not_true, Bool.not_false, reduceCtorEq, and_self, true_and, and_true]
    exact ExtW.al _ _
end Go.AX
end
section
set_option linter.unusedSimpArgs false
set_option linter.unusedVariables false
namespace Go.AX
open Go
def bcs (bs : List Nat) : List AV := bs.map fun (x : Nat) => AV.it .u8 (x : Nat)
inductive SlOf (H : AH) : AV → List AV → Prop where
  | sn : SlOf H .sn []
  | sl {b o c : Nat} {l : List AV} : b < H.nx → (∀ i v, l[i]? = some v → (H.g b).cells[o + i]? = some v) → o + l.length ≤ (H.g b).cells.length → l.length ≤ c → SlOf H (.sl b o l.length c) l
  | sg {b o q : Nat} {l : List AV} : b < H.nx → (∀ i v, l[i]? = some v → (H.g b).cells[o + i]? = some v) → o + l.length ≤ (H.g b).cells.length → (H.g b).isRw = true → SlOf H (.sg b o q l.length 1) l
theorem SlOf.ext {H H' : AH} {v : AV} {l : List AV} (h : SlOf H v l) (e : Ext H H') : SlOf H' v l := by
  cases h with
  | sn => exact .sn
  | sl h1 h2 h3 h4 => exact .sl (Nat.lt_of_lt_of_le h1 e.nx) (by rw [e.g _ h1]; exact h2) (by rw [e.g _ h1]; exact h3) h4
  | sg h1 h2 h3 h4 => exact .sg (Nat.lt_of_lt_of_le h1 e.nx) (by rw [e.g _ h1]; exact h2) (by rw [e.g _ h1]; exact h3) (by rw [e.g _ h1]; exact h4)
theorem SlOf.len {H : AH} {v : AV} {l : List AV} (h : SlOf H v l) : vlen 1 H v = some (.it .i64 l.length) := by
  cases h <;> rfl
theorem SlOf.at_ {H : AH} {v : AV} {l : List AV} (h : SlOf H v l) {i : Nat} {x : AV} (hx : l[i]? = some x) (k : IntKind) : ∃ p, via 1 H v (.it k (i : Int)) = some p ∧ vld1 H p = some x := by
  have hi : i < l.length := (List.getElem?_eq_some_iff.1 hx).1
  cases h with
  | sn => simp at hx
  | sl h1 h2 h3 h4 => exact ⟨_, by simp only [via]; rw [if_pos ⟨by omega, by omega⟩], by simp only [vld1]; simpa using h2 i x hx⟩
  | sg h1 h2 h3 h4 => exact ⟨_, by simp only [via]; rw [if_pos ⟨trivial, by omega, by omega, h4, by omega, by omega⟩], by simp only [vld1]; simpa using h2 i x hx⟩
theorem rd_of {H : AH} {b o : Nat} {l : List AV} (h2 : ∀ i v, l[i]? = some v → (H.g b).cells[o + i]? = some v) (h3 : o + l.length ≤ (H.g b).cells.length) : H.rd b o (l.length * 1) = some l := by
  unfold AH.rd
  rw [Nat.mul_one, if_pos h3]
  congr 1
  apply List.ext_getElem?
  intro i
  rw [List.getElem?_take, List.getElem?_drop]
  by_cases hi : i < l.length
  · rw [if_pos hi, List.getElem?_eq_getElem hi]
    exact h2 i _ (List.getElem?_eq_getElem hi)
  · rw [if_neg hi, List.getElem?_eq_none (by omega)]
theorem SlOf.sc {H : AH} {v : AV} {l : List AV} (h : SlOf H v l) : H.sc 1 v = some (l.length, l) := by
  cases h with
  | sn => rfl
  | sl h1 h2 h3 h4 => simp only [AH.sc, rd_of h2 h3, Option.map_some]
  | sg h1 h2 h3 h4 => simp only [AH.sc, h4, rd_of h2 h3, Option.map_some, Nat.zero_lt_one, and_self, if_true]
theorem SlOf.pre {H : AH} {v : AV} {l : List AV} (h : SlOf H v l) {n : Nat} (hn : n ≤ l.length) : ∃ v', SlOf H v' (l.take n) ∧ ∀ (E : Env) (y : Opd), ev E y = .it .i64 n → vslc 1 H E v none (some y) none = some v' := by
  have hlen : (l.take n).length = n := by simp; omega
  cases h with
  | sn =>
    simp only [List.length_nil, Nat.le_zero_eq] at hn
    subst hn
    exact ⟨.sn, .sn, fun E y hy => by simp [vslc, bnd, hy]⟩
  | @sl b o c _ h1 h2 h3 h4 =>
    have h := SlOf.sl (H := H) (b := b) (o := o) (c := c) (l := l.take n) h1 (fun i v hv => h2 i v (by rw [List.getElem?_take] at hv; split at hv; exact hv; cases hv)) (by omega) (by omega)
    rw [hlen] at h
    refine ⟨_, h, fun E y hy => ?_⟩
    have hb : bnd E l.length c (some y) = some n := by simp only [bnd, hy]; rw [if_pos ⟨by omega, by omega⟩]; simp
    simp only [vslc, show bnd E c c none = some c from rfl, Option.bind_some, hb, show bnd E 0 n none = some 0 from rfl, slcSl, Nat.zero_mul, Nat.add_zero, Nat.sub_zero, ite_self]
  | @sg b o q _ h1 h2 h3 h4 =>
    have h := SlOf.sg (H := H) (b := b) (o := o) (q := q) (l := l.take n) h1 (fun i v hv => h2 i v (by rw [List.getElem?_take] at hv; split at hv; exact hv; cases hv)) (by omega) h4
    rw [hlen] at h
    refine ⟨_, h, fun E y hy => ?_⟩
    have hb : bnd E l.length l.length (some y) = some n := by simp only [bnd, hy]; rw [if_pos ⟨by omega, by omega⟩]; simp
    simp only [vslc]
    rw [if_pos ⟨trivial, by omega, by omega, h4⟩]
    simp only [hb, Option.bind_some, show bnd E 0 n none = some 0 from rfl, if_true]
structure Bytes (H : AH) (v : AV) (bs : List Nat) : Prop where
  sl : SlOf H v (bcs bs)
  lt : ∀ x ∈ bs, x < 256
theorem Bytes.ext {H H' : AH} {v : AV} {bs : List Nat} (h : Bytes H v bs) (e : Ext H H') : Bytes H' v bs := ⟨h.sl.ext e, h.lt⟩
theorem Bytes.len {H : AH} {v : AV} {bs : List Nat} (h : Bytes H v bs) : vlen 1 H v = some (.it .i64 bs.length) := by
  have := h.sl.len
  simpa [bcs] using this
theorem Bytes.at_ {H : AH} {v : AV} {bs : List Nat} (h : Bytes H v bs) {i : Nat} (hi : i < bs.length) (k : IntKind) : ∃ p, via 1 H v (.it k (i : Int)) = some p ∧ vld1 H p = some (.it .u8 (bs[i] : Nat)) :=
  h.sl.at_ (by simp [bcs, hi]) k
theorem Bytes.pre {H : AH} {v : AV} {bs : List Nat} (h : Bytes H v bs) {n : Nat} (hn : n ≤ bs.length) : ∃ v', Bytes H v' (bs.take n) ∧ ∀ (E : Env) (y : Opd), ev E y = .it .i64 n → vslc 1 H E v none (some y) none = some v' := by
  obtain ⟨v', h1, h2⟩ := h.sl.pre (n := n) (by simpa [bcs] using hn)
  exact ⟨v', ⟨by simpa [bcs, List.map_take] using h1, fun x hx => h.lt x (List.mem_of_mem_take hx)⟩, h2⟩
def step (T : Nat → Nat) (c x : Nat) : Nat := T ((c ^^^ x) % 256) ^^^ (c / 256)
def upd (T : Nat → Nat) (c : Nat) (bs : List Nat) : Nat := bs.foldl (step T) c
structure Tab (T : Nat → Nat) : Prop where
  lt : ∀ i, i < 256 → T i < 4294967296
theorem Tab.crc : Tab (cdn 8) := ⟨fun i h => cdn_lt (by omega)⟩
theorem step_lt {T : Nat → Nat} (hT : Tab T) {c x : Nat} (hc : c < 4294967296) : step T c x < 4294967296 :=
  Nat.xor_lt_two_pow (n := 32) (hT.lt _ (by omega)) (by omega)
theorem upd_lt {T : Nat → Nat} (hT : Tab T) : ∀ {bs : List Nat} {c : Nat}, c < 4294967296 → upd T c bs < 4294967296
  | [], _, h => h
  | x :: r, c, h => upd_lt hT (bs := r) (step_lt hT h)
theorem upd_drop {T : Nat → Nat} {c : Nat} {bs : List Nat} {i : Nat} (h : i < bs.length) : upd T c (bs.drop i) = upd T (step T c bs[i]) (bs.drop (i + 1)) := by
  rw [List.drop_eq_getElem_cons h]; rfl
theorem wrap8_n (c : Nat) : IntKind.u8.wrap (c : Int) = ((c % 256 : Nat) : Int) := by rw [IntKind.wrap_u8]; omega
theorem xor8_n {c x : Nat} (hx : x < 256) : Go.bits .xor .u8 ((c % 256 : Nat) : Int) (x : Int) = (((c ^^^ x) % 256 : Nat) : Int) := by
  rw [bits_xor8 (by omega) hx]
  have := Nat.xor_mod_two_pow (a := c) (b := x) (n := 8)
  rw [show (2 : Nat) ^ 8 = 256 from rfl, Nat.mod_eq_of_lt hx] at this
  rw [this]
theorem shr8_n (c : Nat) (k : IntKind) (hk : 8 ≤ k.bits) : Int.fdiv (c : Int) (2 ^ (min (Int.toNat 8) k.bits)) = ((c / 256 : Nat) : Int) := by
  rw [show (min (Int.toNat 8) k.bits) = 8 from Nat.min_eq_left hk]
  show Int.fdiv (c : Int) ((256 : Nat) : Int) = _
  exact (Int.ofNat_fdiv c 256).symm
theorem tab_ld {H : AH} {T : Nat → Nat} {y : Nat} (h : y < 256) {b : Nat} (hb : H.g b = .rw (tabL T)) : vld1 H (.pt b (0 + y * 1)) = some (.it .u32 (T y : Nat)) := by
  simp only [vld1, hb, Blk.cells, Nat.zero_add, Nat.mul_one, tabL_at h]
theorem update_law (H : AH) (T : Nat → Nat) (hT : Tab T) (c : Nat) (hc : c < 4294967296) (v : AV) (bs : List Nat) (hb : Bytes H v bs) (hl : bs.length < 4611686018427387904) :
    Call Go.Proofs.Try.prog fn_crc_Update [.ag (tabL T), .it .u32 c, v] H fun r H' => r = .ret (.it .u32 (upd T c bs : Nat)) ∧ ExtW H H' := by
  refine call_of_X rf_crc_Update_ok (Nat.le_of_ble_eq_true rfl) ?_
  have hb' : Bytes (H.al (tabL T)) v bs := hb.ext (Ext.al _ _)
  simp only [rf_crc_Update, ↓X_nil, ↓X_ret, ↓X_blk, ↓X_skip, ↓X_reg, ↓X_seq, ↓X_block, ↓X_onil, ↓X_exit_hit, ↓X_exit_c, ↓X_exit_o, ↓X_exit_lp, ↓X_exit_blk, ↓X_cond, AtB_t, AtB_f, AtV_some, ↓X_ov, ↓X_oc, ↓X_og, AtG_tt, AtG_ff, AtG_tf, AtG_ft, ↓X_regd, ↓XD_nil, ↓XD_v, ↓XD_c, DtV_some, Rechks_nil, Rechks_cons, Rechk_n, RkG_tt, RkG_ff, RkG_tf, RkG_ft, sameB_pt, sameB_sl, VOp.cls, DtG_tt, DtG_ff, DtG_tf, DtG_ft, FinV_ret, AtR_some, rtup_one, rtup_nil, rtup_two, rvals, put_some, put_none, st_ap, ev_t, ev_k, ev_f, env_0, env_s, env_n, vals_nil, vals_cons, vop, vbin_add, vbin_sub, vbin_mul, vbin_quo, vbin_rem, vbin_and, vbin_or, vbin_xor, vbin_andNot, vbin_eql, vbin_neq, vbin_lss, vbin_leq, vbin_gtr, vbin_geq, vbin_shl, vbin_shr, vbin_beq, vbin_bne, vun_not, vcvi_it, pick_t, pick_f, Option.map_some, Option.map_none, Option.bind_some, Option.bind_none, ↓reduceIte, Nat.reduceEqDiff, Nat.reduceAdd, Nat.reduceSub, Int.reduceEq, Int.reduceLT, Int.reduceLE, decide_true, decide_false, Bool.not_true, Bool.not_false, reduceCtorEq, and_self, true_and, and_true, AV.cl, hb'.len]
  refine X_while (σ := Nat × Nat) (fun s E1 H1 => H1 = H.al (tabL T) ∧ s.1 ≤ bs.length ∧ s.2 < 4294967296 ∧ E1 11 = .it .i64 s.1 ∧ E1 1 = .it .u32 s.2 ∧ upd T s.2 (bs.drop s.1) = upd T c bs ∧ E1 3 = .pt H.nx 0 ∧ E1 9 = v ∧ E1 10 = .it .i64 bs.length) (fun s => bs.length - s.1) (0, c)
    ⟨rfl, Nat.zero_le _, hc, by simp only [↓X_nil, ↓X_ret, ↓X_blk, ↓X_skip, ↓X_reg, ↓X_seq, ↓X_block, ↓X_onil, ↓X_exit_hit, ↓X_exit_c, ↓X_exit_o, ↓X_exit_lp, ↓X_exit_blk, ↓X_cond, AtB_t, AtB_f, AtV_some, ↓X_ov, ↓X_oc, ↓X_og, AtG_tt, AtG_ff, AtG_tf, AtG_ft, ↓X_regd, ↓XD_nil, ↓XD_v, ↓XD_c, DtV_some, Rechks_nil, Rechks_cons, Rechk_n, RkG_tt, RkG_ff, RkG_tf, RkG_ft, sameB_pt, sameB_sl, VOp.cls, DtG_tt, DtG_ff, DtG_tf, DtG_ft, FinV_ret, AtR_some, rtup_one, rtup_nil, rtup_two, rvals, put_some, put_none, st_ap, ev_t, ev_k, ev_f, env_0, env_s, env_n, vals_nil, vals_cons, vop, vbin_add, vbin_sub, vbin_mul, vbin_quo, vbin_rem, vbin_and, vbin_or, vbin_xor, vbin_andNot, vbin_eql, vbin_neq, vbin_lss, vbin_leq, vbin_gtr, vbin_geq, vbin_shl, vbin_shr, vbin_beq, vbin_bne, vun_not, vcvi_it, pick_t, pick_f, Option.map_some, Option.map_none, Option.bind_some, Option.bind_none, ↓reduceIte, Nat.reduceEqDiff, Nat.reduceAdd, Nat.reduceSub, Int.reduceEq, Int.reduceLT, Int.reduceLE, decide_true, decide_false, Bool.not_true, Bool.not_false, reduceCtorEq, and_self, true_and, and_true]; rfl, by simp only [↓X_nil, ↓X_ret, ↓X_blk, ↓X_skip, ↓X_reg, ↓X_seq, ↓X_block, ↓X_onil, ↓X_exit_hit, ↓X_exit_c, ↓X_exit_o, ↓X_exit_lp, ↓X_exit_blk, ↓X_cond, AtB_t, AtB_f, AtV_some, ↓X_ov, ↓X_oc, ↓X_og, AtG_tt, AtG_ff, AtG_tf, AtG_ft, ↓X_regd, ↓XD_nil, ↓XD_v, ↓XD_c, DtV_some, Rechks_nil, Rechks_cons, Rechk_n, RkG_tt, RkG_ff, RkG_tf, RkG_ft, sameB_pt, sameB_sl, VOp.cls, DtG_tt, DtG_ff, DtG_tf, DtG_ft, FinV_ret, AtR_some, rtup_one, rtup_nil, rtup_two, rvals, put_some, put_none, st_ap, ev_t, ev_k, ev_f, env_0, env_s, env_n, vals_nil, vals_cons, vop, vbin_add, vbin_sub, vbin_mul, vbin_quo, vbin_rem, vbin_and, vbin_or, vbin_xor, vbin_andNot, vbin_eql, vbin_neq, vbin_lss, vbin_leq, vbin_gtr, vbin_geq, vbin_shl, vbin_shr, vbin_beq, vbin_bne, vun_not, vcvi_it, pick_t, pick_f, Option.map_some, Option.map_none, Option.bind_some, Option.bind_none, ↓reduceIte, Nat.reduceEqDiff, Nat.reduceAdd, Nat.reduceSub, Int.reduceEq, Int.reduceLT, Int.reduceLE, decide_true, decide_false, Bool.not_true, Bool.not_false, reduceCtorEq, and_self, true_and, and_true], rfl, by simp only [↓X_nil, ↓X_ret, ↓X_blk, ↓X_skip, ↓X_reg, ↓X_seq, ↓X_block, ↓X_onil, ↓X_exit_hit, ↓X_exit_c, ↓X_exit_o, ↓X_exit_lp, ↓X_exit_blk, ↓X_cond, AtB_t, AtB_f, AtV_some, ↓X_ov, ↓X_oc, ↓X_og, AtG_tt, AtG_ff, AtG_tf, AtG_ft, ↓X_regd, ↓XD_nil, ↓XD_v, ↓XD_c, DtV_some, Rechks_nil, Rechks_cons, Rechk_n, RkG_tt, RkG_ff, RkG_tf, RkG_ft, sameB_pt, sameB_sl, VOp.cls, DtG_tt, DtG_ff, DtG_tf, DtG_ft, FinV_ret, AtR_some, rtup_one, rtup_nil, rtup_two, rvals, put_some, put_none, st_ap, ev_t, ev_k, ev_f, env_0, env_s, env_n, vals_nil, vals_cons, vop, vbin_add, vbin_sub, vbin_mul, vbin_quo, vbin_rem, vbin_and, vbin_or, vbin_xor, vbin_andNot, vbin_eql, vbin_neq, vbin_lss, vbin_leq, vbin_gtr, vbin_geq, vbin_shl, vbin_shr, vbin_beq, vbin_bne, vun_not, vcvi_it, pick_t, pick_f, Option.map_some, Option.map_none, Option.bind_some, Option.bind_none, ↓reduceIte, Nat.reduceEqDiff, Nat.reduceAdd, Nat.reduceSub, Int.reduceEq, Int.reduceLT, Int.reduceLE, decide_true, decide_false, Bool.not_true, Bool.not_false, reduceCtorEq, and_self, true_and, and_true], by simp only [↓X_nil, ↓X_ret, ↓X_blk, ↓X_skip, ↓X_reg, ↓X_seq, ↓X_block, ↓X_onil, ↓X_exit_hit, ↓X_exit_c, ↓X_exit_o, ↓X_exit_lp, ↓X_exit_blk, ↓X_cond, AtB_t, AtB_f, AtV_some, ↓X_ov, ↓X_oc, ↓X_og, AtG_tt, AtG_ff, AtG_tf, AtG_ft, ↓X_regd, ↓XD_nil, ↓XD_v, ↓XD_c, DtV_some, Rechks_nil, Rechks_cons, Rechk_n, RkG_tt, RkG_ff, RkG_tf, RkG_ft, sameB_pt, sameB_sl, VOp.cls, DtG_tt, DtG_ff, DtG_tf, DtG_ft, FinV_ret, AtR_some, rtup_one, rtup_nil, rtup_two, rvals, put_some, put_none, st_ap, ev_t, ev_k, ev_f, env_0, env_s, env_n, vals_nil, vals_cons, vop, vbin_add, vbin_sub, vbin_mul, vbin_quo, vbin_rem, vbin_and, vbin_or, vbin_xor, vbin_andNot, vbin_eql, vbin_neq, vbin_lss, vbin_leq, vbin_gtr, vbin_geq, vbin_shl, vbin_shr, vbin_beq, vbin_bne, vun_not, vcvi_it, pick_t, pick_f, Option.map_some, Option.map_none, Option.bind_some, Option.bind_none, ↓reduceIte, Nat.reduceEqDiff, Nat.reduceAdd, Nat.reduceSub, Int.reduceEq, Int.reduceLT, Int.reduceLE, decide_true, decide_false, Bool.not_true, Bool.not_false, reduceCtorEq, and_self, true_and, and_true], by simp only [↓X_nil, ↓X_ret, ↓X_blk, ↓X_skip, ↓X_reg, ↓X_seq, ↓X_block, ↓X_onil, ↓X_exit_hit, ↓X_exit_c, ↓X_exit_o, ↓X_exit_lp, ↓X_exit_blk, ↓X_cond, AtB_t, AtB_f, AtV_some, ↓X_ov, ↓X_oc, ↓X_og, AtG_tt, AtG_ff, AtG_tf, AtG_ft, ↓X_regd, ↓XD_nil, ↓XD_v, ↓XD_c, DtV_some, Rechks_nil, Rechks_cons, Rechk_n, RkG_tt, RkG_ff, RkG_tf, RkG_ft, sameB_pt, sameB_sl, VOp.cls, DtG_tt, DtG_ff, DtG_tf, DtG_ft, FinV_ret, AtR_some, rtup_one, rtup_nil, rtup_two, rvals, put_some, put_none, st_ap, ev_t, ev_k, ev_f, env_0, env_s, env_n, vals_nil, vals_cons, vop, vbin_add, vbin_sub, vbin_mul, vbin_quo, vbin_rem, vbin_and, vbin_or, vbin_xor, vbin_andNot, vbin_eql, vbin_neq, vbin_lss, vbin_leq, vbin_gtr, vbin_geq, vbin_shl, vbin_shr, vbin_beq, vbin_bne, vun_not, vcvi_it, pick_t, pick_f, Option.map_some, Option.map_none, Option.bind_some, Option.bind_none, ↓reduceIte, Nat.reduceEqDiff, Nat.reduceAdd, Nat.reduceSub, Int.reduceEq, Int.reduceLT, Int.reduceLE, decide_true, decide_false, Bool.not_true, Bool.not_false, reduceCtorEq, and_self, true_and, and_true]⟩ ?_
  rintro ⟨i, x⟩ E1 H1 ⟨rfl, hi, hx, e11, e1, hr, e3, e9, e10⟩ hnext
  simp only at hi hx e11 e1 hr hnext
  by_cases h8 : i < bs.length
  · have h8' : (i : Int) < bs.length := by omega
    have e4 : IntKind.i64.wrap ((i : Int) + 1) = ((i + 1 : Nat) : Int) := i64_s (by omega)
    have hlt := hb.lt bs[i] (List.getElem_mem h8)
    obtain ⟨p, hp1, hp2⟩ := hb'.at_ h8 .i64
    have hy : (x ^^^ bs[i]) % 256 < 256 := Nat.mod_lt _ (by decide)
    have g4 : Go.bits .xor .u32 ((T ((x ^^^ bs[i]) % 256) : Nat) : Int) ((x / 256 : Nat) : Int) = ((step T x bs[i] : Nat) : Int) := bits_xor32 (hT.lt _ hy) (by omega)
    simp only [↓X_nil, ↓X_ret, ↓X_blk, ↓X_skip, ↓X_reg, ↓X_seq, ↓X_block, ↓X_onil, ↓X_exit_hit, ↓X_exit_c, ↓X_exit_o, ↓X_exit_lp, ↓X_exit_blk, ↓X_cond, AtB_t, AtB_f, AtV_some, ↓X_ov, ↓X_oc, ↓X_og, AtG_tt, AtG_ff, AtG_tf, AtG_ft, ↓X_regd, ↓XD_nil, ↓XD_v, ↓XD_c, DtV_some, Rechks_nil, Rechks_cons, Rechk_n, RkG_tt, RkG_ff, RkG_tf, RkG_ft, sameB_pt, sameB_sl, VOp.cls, DtG_tt, DtG_ff, DtG_tf, DtG_ft, FinV_ret, AtR_some, rtup_one, rtup_nil, rtup_two, rvals, put_some, put_none, st_ap, ev_t, ev_k, ev_f, env_0, env_s, env_n, vals_nil, vals_cons, vop, vbin_add, vbin_sub, vbin_mul, vbin_quo, vbin_rem, vbin_and, vbin_or, vbin_xor, vbin_andNot, vbin_eql, vbin_neq, vbin_lss, vbin_leq, vbin_gtr, vbin_geq, vbin_shl, vbin_shr, vbin_beq, vbin_bne, vun_not, vcvi_it, pick_t, pick_f, Option.map_some, Option.map_none, Option.bind_some, Option.bind_none, ↓reduceIte, Nat.reduceEqDiff, Nat.reduceAdd, Nat.reduceSub, Int.reduceEq, Int.reduceLT, Int.reduceLE, decide_true, decide_false, Bool.not_true, Bool.not_false, reduceCtorEq, and_self, true_and, and_true, e11, e1, e3, e9, e10, h8', hp1, hp2, wrap8_n, xor8_n hlt, viaa_n hy, tab_ld hy al_new, shr8_n x .u32 (by decide), g4, e4]
    exact hnext (i + 1, step T x bs[i]) _ _ (by simp only; omega) ⟨rfl, by simp only; omega, step_lt hT hx, by simp only [↓X_nil, ↓X_ret, ↓X_blk, ↓X_skip, ↓X_reg, ↓X_seq, ↓X_block, ↓X_onil, ↓X_exit_hit, ↓X_exit_c, ↓X_exit_o, ↓X_exit_lp, ↓X_exit_blk, ↓X_cond, AtB_t, AtB_f, AtV_some, ↓X_ov, ↓X_oc, ↓X_og, AtG_tt, AtG_ff, AtG_tf, AtG_ft, ↓X_regd, ↓XD_nil, ↓XD_v, ↓XD_c, DtV_some, Rechks_nil, Rechks_cons, Rechk_n, RkG_tt, RkG_ff, RkG_tf, RkG_ft, sameB_pt, sameB_sl, VOp.cls, DtG_tt, DtG_ff, DtG_tf, DtG_ft, FinV_ret, AtR_some, rtup_one, rtup_nil, rtup_two, rvals, put_some, put_none, st_ap, ev_t, ev_k, ev_f, env_0, env_s, env_n, vals_nil, vals_cons, vop, vbin_add, vbin_sub, vbin_mul, vbin_quo, vbin_rem, vbin_and, vbin_or, vbin_xor, vbin_andNot, vbin_eql, vbin_neq, vbin_lss, vbin_leq, vbin_gtr, vbin_geq, vbin_shl, vbin_shr, vbin_beq, vbin_bne, vun_not, vcvi_it, pick_t, pick_f, Option.map_some, Option.map_none, Option.bind_some, Option.bind_none, ↓reduceIte, Nat.reduceEqDiff, Nat.reduceAdd, Nat.reduceSub, Int.reduceEq, Int.reduceLT, Int.reduceLE, decide_true, decide_false, Bool.not_true, Bool.not_false, reduceCtorEq, and_self, true_and, and_true], by simp only [↓X_nil, ↓X_ret, ↓X_blk, ↓X_skip, ↓X_reg, ↓X_seq, ↓X_block, ↓X_onil, ↓X_exit_hit, ↓X_exit_c, ↓X_exit_o, ↓X_exit_lp, ↓X_exit_blk, ↓X_cond, AtB_t, AtB_f, AtV_some, ↓X_ov, ↓X_oc, ↓X_og, AtG_tt, AtG_ff, AtG_tf, AtG_ft, ↓X_regd, ↓XD_nil, ↓XD_v, ↓XD_c, DtV_some, Rechks_nil, Rechks_cons, Rechk_n, RkG_tt, RkG_ff, RkG_tf, RkG_ft, sameB_pt, sameB_sl, VOp.cls, DtG_tt, DtG_ff, DtG_tf, DtG_ft, FinV_ret, AtR_some, rtup_one, rtup_nil, rtup_two, rvals, put_some, put_none, st_ap, ev_t, ev_k, ev_f, env_0, env_s, env_n, vals_nil, vals_cons, vop, vbin_add, vbin_sub, vbin_mul, vbin_quo, vbin_rem, vbin_and, vbin_or, vbin_xor, vbin_andNot, vbin_eql, vbin_neq, vbin_lss, vbin_leq, vbin_gtr, vbin_geq, vbin_shl, vbin_shr, vbin_beq, vbin_bne, vun_not, vcvi_it, pick_t, pick_f, Option.map_some, Option.map_none, Option.bind_some, Option.bind_none, ↓reduceIte, Nat.reduceEqDiff, Nat.reduceAdd, Nat.reduceSub, Int.reduceEq, Int.reduceLT, Int.reduceLE, decide_true, decide_false, Bool.not_true, Bool.not_false, reduceCtorEq, and_self, true_and, and_true], by simp only; rw [← hr, upd_drop h8], by simp only [↓X_nil, ↓X_ret, ↓X_blk, ↓X_skip, ↓X_reg, ↓X_seq, ↓X_block, ↓X_onil, ↓X_exit_hit, ↓X_exit_c, ↓X_exit_o, ↓X_exit_lp, ↓X_exit_blk, ↓X_cond, AtB_t, AtB_f, AtV_some, ↓X_ov, ↓X_oc, ↓X_og, AtG_tt, AtG_ff, AtG_tf, AtG_ft, ↓X_regd, ↓XD_nil, ↓XD_v, ↓XD_c, DtV_some, Rechks_nil, Rechks_cons, Rechk_n, RkG_tt, RkG_ff, RkG_tf, RkG_ft, sameB_pt, sameB_sl, VOp.cls, DtG_tt, DtG_ff, DtG_tf, DtG_ft, FinV_ret, AtR_some, rtup_one, rtup_nil, rtup_two, rvals, put_some, put_none, st_ap, ev_t, ev_k, ev_f, env_0, env_s, env_n, vals_nil, vals_cons, vop, vbin_add, vbin_sub, vbin_mul, vbin_quo, vbin_rem, vbin_and, vbin_or, vbin_xor, vbin_andNot, vbin_eql, vbin_neq, vbin_lss, vbin_leq, vbin_gtr, vbin_geq, vbin_shl, vbin_shr, vbin_beq, vbin_bne, vun_not, vcvi_it, pick_t, pick_f, Option.map_some, Option.map_none, Option.bind_some, Option.bind_none, ↓reduceIte, Nat.reduceEqDiff, Nat.reduceAdd, Nat.reduceSub, Int.reduceEq, Int.reduceLT, Int.reduceLE, decide_true, decide_false, Bool.not_true, Bool.not_false, reduceCtorEq, and_self, true_and, and_true, e3], by simp only [↓X_nil, ↓X_ret, ↓X_blk, ↓X_skip, ↓X_reg, ↓X_seq, ↓X_block, ↓X_onil, ↓X_exit_hit, ↓X_exit_c, ↓X_exit_o, ↓X_exit_lp, ↓X_exit_blk, ↓X_cond, AtB_t, AtB_f, AtV_some, ↓X_ov, ↓X_oc, ↓X_og, AtG_tt, AtG_ff, AtG_tf, AtG_ft, ↓X_regd, ↓XD_nil, ↓XD_v, ↓XD_c, DtV_some, Rechks_nil, Rechks_cons, Rechk_n, RkG_tt, RkG_ff, RkG_tf, RkG_ft, sameB_pt, sameB_sl, VOp.cls, DtG_tt, DtG_ff, DtG_tf, DtG_ft, FinV_ret, AtR_some, rtup_one, rtup_nil, rtup_two, rvals, put_some, put_none, st_ap, ev_t, ev_k, ev_f, env_0, env_s, env_n, vals_nil, vals_cons, vop, vbin_add, vbin_sub, vbin_mul, vbin_quo, vbin_rem, vbin_and, vbin_or, vbin_xor, vbin_andNot, vbin_eql, vbin_neq, vbin_lss, vbin_leq, vbin_gtr, vbin_geq, vbin_shl, vbin_shr, vbin_beq, vbin_bne, vun_not, vcvi_it, pick_t, pick_f, Option.map_some, Option.map_none, Option.bind_some, Option.bind_none, ↓reduceIte, Nat.reduceEqDiff, Nat.reduceAdd, Nat.reduceSub, Int.reduceEq, Int.reduceLT, Int.reduceLE, decide_true, decide_false, Bool.not_true, Bool.not_false, reduceCtorEq, and_self, true_and, and_true, e9], by simp only [↓X_nil, ↓X_ret, ↓X_blk, ↓X_skip, ↓X_reg, ↓X_seq, ↓X_block, ↓X_onil, ↓X_exit_hit, ↓X_exit_c, ↓X_exit_o, ↓X_exit_lp, ↓X_exit_blk, ↓X_cond, AtB_t, AtB_f, AtV_some, ↓X_ov, ↓X_oc, ↓X_og, AtG_tt, AtG_ff, AtG_tf, AtG_ft, ↓X_regd, ↓XD_nil, ↓XD_v, ↓XD_c, DtV_some, Rechks_nil, Rechks_cons, Rechk_n, RkG_tt, RkG_ff, RkG_tf, RkG_ft, sameB_pt, sameB_sl, VOp.cls, DtG_tt, DtG_ff, DtG_tf, DtG_ft, FinV_ret, AtR_some, rtup_one, rtup_nil, rtup_two, rvals, put_some, put_none, st_ap, ev_t, ev_k, ev_f, env_0, env_s, env_n, vals_nil, vals_cons, vop, vbin_add, vbin_sub, vbin_mul, vbin_quo, vbin_rem, vbin_and, vbin_or, vbin_xor, vbin_andNot, vbin_eql, vbin_neq, vbin_lss, vbin_leq, vbin_gtr, vbin_geq, vbin_shl, vbin_shr, vbin_beq, vbin_bne, vun_not, vcvi_it, pick_t, pick_f, Option.map_some, Option.map_none, Option.bind_some, Option.bind_none, ↓reduceIte, Nat.reduceEqDiff, Nat.reduceAdd, Nat.reduceSub, Int.reduceEq, Int.reduceLT, Int.reduceLE, decide_true, decide_false, Bool.not_true, Bool.not_false, reduceCtorEq, and_self, true_and, and_true, e10]⟩
  · have h8' : ¬ (i : Int) < bs.length := by omega
    obtain rfl : i = bs.length := by omega
    rw [List.drop_length] at hr
    have hr : x = upd T c bs := hr
    simp only [↓X_nil, ↓X_ret, ↓X_blk, ↓X_skip, ↓X_reg, ↓X_seq, ↓X_block, ↓X_onil, ↓X_exit_hit, ↓X_exit_c, ↓X_exit_o, ↓X_exit_lp, ↓X_exit_blk, ↓X_cond, AtB_t, AtB_f, AtV_some, ↓X_ov, ↓X_oc, ↓X_og, AtG_tt, AtG_ff, AtG_tf, AtG_ft, ↓X_regd, ↓XD_nil, ↓XD_v, ↓XD_c, DtV_some, Rechks_nil, Rechks_cons, Rechk_n, RkG_tt, RkG_ff, RkG_tf, RkG_ft, sameB_pt, sameB_sl, VOp.cls, DtG_tt, DtG_ff, DtG_tf, DtG_ft, FinV_ret, AtR_some, rtup_one, rtup_nil, rtup_two, rvals, put_some, put_none, st_ap, ev_t, ev_k, ev_f, env_0, env_s, env_n, vals_nil, vals_cons, vop, vbin_add, vbin_sub, vbin_mul, vbin_quo, vbin_rem, vbin_and, vbin_or, vbin_xor, vbin_andNot, vbin_eql, vbin_neq, vbin_lss, vbin_leq, vbin_gtr, vbin_geq, vbin_shl, vbin_shr, vbin_beq, vbin_bne, vun_not, vcvi_it, pick_t, pick_f, Option.map_some, Option.map_none, Option.bind_some, Option.bind_none, ↓reduceIte, Nat.reduceEqDiff, Nat.reduceAdd, Nat.reduceSub, Int.reduceEq, Int.reduceLT, Int.reduceLE, decide_true, decide_false, Bool.not_true, Bool.not_false, reduceCtorEq, and_self, true_and, and_true, e11, e1, e10, h8', hr]
    exact ExtW.al _ _
def sum (bs : List Nat) : Nat := upd (cdn 8) 4294967295 bs ^^^ 4294967295
theorem sum_lt (bs : List Nat) : sum bs < 4294967296 := Nat.xor_lt_two_pow (n := 32) (upd_lt Tab.crc (by decide)) (by decide)
theorem sum_law (H : AH) (v : AV) (bs : List Nat) (hb : Bytes H v bs) (hl : bs.length < 4611686018427387904) :
    Call Go.Proofs.Try.prog fn_crc_Sum [v] H fun r H' => r = .ret (.it .u32 (sum bs : Nat)) ∧ ExtW H H' := by
  refine call_of_X rf_crc_Sum_ok (Nat.le_of_ble_eq_true rfl) ?_
  simp only [rf_crc_Sum, ↓X_nil, ↓X_ret, ↓X_blk, ↓X_skip, ↓X_reg, ↓X_seq, ↓X_block, ↓X_onil, ↓X_exit_hit, ↓X_exit_c, ↓X_exit_o, ↓X_exit_lp, ↓X_exit_blk, ↓X_cond, AtB_t, AtB_f, AtV_some, ↓X_ov, ↓X_oc, ↓X_og, AtG_tt, AtG_ff, AtG_tf, AtG_ft, ↓X_regd, ↓XD_nil, ↓XD_v, ↓XD_c, DtV_some, Rechks_nil, Rechks_cons, Rechk_n, RkG_tt, RkG_ff, RkG_tf, RkG_ft, sameB_pt, sameB_sl, VOp.cls, DtG_tt, DtG_ff, DtG_tf, DtG_ft, FinV_ret, AtR_some, rtup_one, rtup_nil, rtup_two, rvals, put_some, put_none, st_ap, ev_t, ev_k, ev_f, env_0, env_s, env_n, vals_nil, vals_cons, vop, vbin_add, vbin_sub, vbin_mul, vbin_quo, vbin_rem, vbin_and, vbin_or, vbin_xor, vbin_andNot, vbin_eql, vbin_neq, vbin_lss, vbin_leq, vbin_gtr, vbin_geq, vbin_shl, vbin_shr, vbin_beq, vbin_bne, vun_not, vcvi_it, pick_t, pick_f, Option.map_some, Option.map_none, Option.bind_some, Option.bind_none, ↓reduceIte, Nat.reduceEqDiff, Nat.reduceAdd, Nat.reduceSub, Int.reduceEq, Int.reduceLT, Int.reduceLE, decide_true, decide_false, Bool.not_true, Bool.not_false, reduceCtorEq, and_self, true_and, and_true]
  refine AtC_of (table_law H) fun H1 x1 => ?_
  simp only [↓X_nil, ↓X_ret, ↓X_blk, ↓X_skip, ↓X_reg, ↓X_seq, ↓X_block, ↓X_onil, ↓X_exit_hit, ↓X_exit_c, ↓X_exit_o, ↓X_exit_lp, ↓X_exit_blk, ↓X_cond, AtB_t, AtB_f, AtV_some, ↓X_ov, ↓X_oc, ↓X_og, AtG_tt, AtG_ff, AtG_tf, AtG_ft, ↓X_regd, ↓XD_nil, ↓XD_v, ↓XD_c, DtV_some, Rechks_nil, Rechks_cons, Rechk_n, RkG_tt, RkG_ff, RkG_tf, RkG_ft, sameB_pt, sameB_sl, VOp.cls, DtG_tt, DtG_ff, DtG_tf, DtG_ft, FinV_ret, AtR_some, rtup_one, rtup_nil, rtup_two, rvals, put_some, put_none, st_ap, ev_t, ev_k, ev_f, env_0, env_s, env_n, vals_nil, vals_cons, vop, vbin_add, vbin_sub, vbin_mul, vbin_quo, vbin_rem, vbin_and, vbin_or, vbin_xor, vbin_andNot, vbin_eql, vbin_neq, vbin_lss, vbin_leq, vbin_gtr, vbin_geq, vbin_shl, vbin_shr, vbin_beq, vbin_bne, vun_not, vcvi_it, pick_t, pick_f, Option.map_some, Option.map_none, Option.bind_some, Option.bind_none, ↓reduceIte, Nat.reduceEqDiff, Nat.reduceAdd, Nat.reduceSub, Int.reduceEq, Int.reduceLT, Int.reduceLE, decide_true, decide_false, Bool.not_true, Bool.not_false, reduceCtorEq, and_self, true_and, and_true]
  refine AtC_of (update_law H1 (cdn 8) Tab.crc 4294967295 (by decide) v bs (hb.ext x1.x) hl) fun H2 x2 => ?_
  have g : Go.bits .xor .u32 ((upd (cdn 8) 4294967295 bs : Nat) : Int) 4294967295 = ((sum bs : Nat) : Int) := bits_xor32 (b := 4294967295) (upd_lt Tab.crc (by decide)) (by decide)
  simp only [↓X_nil, ↓X_ret, ↓X_blk, ↓X_skip, ↓X_reg, ↓X_seq, ↓X_block, ↓X_onil, ↓X_exit_hit, ↓X_exit_c, ↓X_exit_o, ↓X_exit_lp, ↓X_exit_blk, ↓X_cond, AtB_t, AtB_f, AtV_some, ↓X_ov, ↓X_oc, ↓X_og, AtG_tt, AtG_ff, AtG_tf, AtG_ft, ↓X_regd, ↓XD_nil, ↓XD_v, ↓XD_c, DtV_some, Rechks_nil, Rechks_cons, Rechk_n, RkG_tt, RkG_ff, RkG_tf, RkG_ft, sameB_pt, sameB_sl, VOp.cls, DtG_tt, DtG_ff, DtG_tf, DtG_ft, FinV_ret, AtR_some, rtup_one, rtup_nil, rtup_two, rvals, put_some, put_none, st_ap, ev_t, ev_k, ev_f, env_0, env_s, env_n, vals_nil, vals_cons, vop, vbin_add, vbin_sub, vbin_mul, vbin_quo, vbin_rem, vbin_and, vbin_or, vbin_xor, vbin_andNot, vbin_eql, vbin_neq, vbin_lss, vbin_leq, vbin_gtr, vbin_geq, vbin_shl, vbin_shr, vbin_beq, vbin_bne, vun_not, vcvi_it, pick_t, pick_f, Option.map_some, Option.map_none, Option.bind_some, Option.bind_none, ↓reduceIte, Nat.reduceEqDiff, Nat.reduceAdd, Nat.reduceSub, Int.reduceEq, Int.reduceLT, Int.reduceLE, decide_true, decide_false, Bool.not_true, Bool.not_false, reduceCtorEq, and_self, true_and, and_true, g]
  exact x1.trans x2
end Go.AX
end
section
set_option linter.unusedSimpArgs false
set_option linter.unusedVariables false
namespace Go.AX
open Go
def u8ok (l : List Int) : Bool := l.all fun n => decide (0 ≤ n) && decide (n < 256)
def crcG (l : List Int) : Option Int := bif u8ok l && decide (l.length ≤ 1000000) then some ((sum (l.map Int.toNat) : Nat) : Int) else none
def sgCrcSum : Sig := ⟨⟨[(0, .vs 0 (.int .u8))], []⟩, [⟨[(0, .it .u32)], []⟩]⟩
theorem u8ok_iff {l : List Int} : u8ok l = true ↔ ∀ n ∈ l, 0 ≤ n ∧ n < 256 := by
  simp [u8ok]
theorem RcE_ints {F : Nat → Prop} {H : AH} {k : IntKind} : ∀ {l : List Int} {cs : List AV}, RcE F H 1 (Ty.pl (.int k) l) cs → cs = l.map (AV.it k)
  | [], cs, h => h
  | n :: r, cs, h => by
    obtain ⟨a, c, cs', rfl, g2, g3, rfl, g5⟩ := h
    simp only [AV.cl, Option.some.injEq] at g2; subst g2
    rw [RcE_ints g5]; rfl
theorem SlOf_of {H : AH} {v : AV} {n : Nat} {cs : List AV} (h : Sl H 1 v n cs) : SlOf H v cs := by
  cases h with
  | sn => exact .sn
  | sl h1 h2 h3 h4 h5 =>
    obtain rfl : n = cs.length := by omega
    exact .sl h1 h2 h3 h5
  | sg h1 h2 h3 h4 h5 h6 =>
    obtain rfl : n = cs.length := by omega
    exact .sg h1 h2 h3 h4
theorem bcs_nat : ∀ {l : List Int}, (∀ n ∈ l, 0 ≤ n ∧ n < 256) → bcs (l.map Int.toNat) = l.map (AV.it .u8)
  | [], _ => rfl
  | n :: r, h => by
    have h1 := (h n (List.mem_cons_self ..)).1
    have := bcs_nat fun m hm => h m (List.mem_cons_of_mem _ hm)
    simp only [bcs] at this
    simp only [bcs, List.map_cons, this, Int.toNat_of_nonneg h1]
theorem crcSum_ok : FnOK Go.Proofs.Try.prog fn_crc_Sum sgCrcSum crcG := by
  refine ⟨Bd_of (by kernel_rfl), fun (l : List Int) (y : Int) hy => ?_⟩
  replace hy := bif_some hy
  obtain ⟨h1, h2⟩ := hy
  cases h2
  rw [Bool.and_eq_true, u8ok_iff] at h1
  obtain ⟨h1, h2⟩ := h1
  have h2 := of_decide_eq_true h2
  show PCall Go.Proofs.Try.prog fn_crc_Sum [] [.vs 0 1 (Ty.pl (.int .u8) l)] [] (.it .u32 _) []
  intro L H avs hR ha
  obtain ⟨a, m, rfl, ⟨⟨cs, g1, g2, g3⟩, _⟩, rfl⟩ := ha
  have hcs := RcE_ints g3
  subst hcs
  have hb : Bytes H a (l.map Int.toNat) := by
    refine ⟨?_, fun x hx => ?_⟩
    · rw [bcs_nat h1]; exact SlOf_of g1
    · obtain ⟨n, hn, rfl⟩ := List.mem_map.1 hx
      have := h1 n hn
      omega
  obtain ⟨r, H', hc, rfl, hx⟩ := sum_law H a _ hb (by rw [List.length_map]; omega)
  have hg : ∀ X, X < H.nx → H'.g X = H.g X := hx.x.g
  exact ⟨_, H', L, hc, ⟨⟨⟨hx.x.nx, fun _ h => h, fun X hX => hg X (hR.fl X hX)⟩, Nat.le_refl _, fun _ _ => rfl⟩, fun X hX _ _ => hg X hX, fun X hX => .inl hX, fun X hX => .inl hX⟩,
    ⟨hR.n, fun X hX => Nat.lt_of_lt_of_le (hR.fl X hX) hx.x.nx, hx.wf hR.wf, fun b p h => by simp at h, fun b b' p p' X h => by simp at h⟩, rfl, fun X hX _ => hg X hX⟩
end Go.AX
end
