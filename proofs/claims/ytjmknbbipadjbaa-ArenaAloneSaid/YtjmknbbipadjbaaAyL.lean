/- AY, part L: the equations that the walk rewrites by. -/
import Derived.Test.YtjmknbbipadjbaaAyK
import Derived.IntWalk
set_option linter.unusedSimpArgs false
set_option linter.unusedVariables false
namespace Go.AX
open Go

section
variable {P : Program} {K n : Nat} {R : PEnd} {k : List It} {E : PE0} {B : List PB} {l : List ROper}
theorem Z_nil : Z P K R (n + 1) [] E B = R none E B := Eq.trans rfl rfl
theorem Z_blk {i : Nat} : Z P K R (n + 1) (.blk i :: k) E B = Z P K R n k E B := Eq.trans rfl rfl
theorem Z_lp {c : RC} : Z P K R (n + 1) (.lp c :: k) E B = Y P K R (.lp c :: k) E B := Eq.trans rfl rfl
theorem Z_onil : Z P K R (n + 1) (.o [] :: k) E B = Z P K R n k E B := Eq.trans rfl rfl
theorem Z_o {d : Option Nat} {o : ROp} : Z P K R (n + 1) (.o (⟨d, none, o⟩ :: l) :: k) E B = ZO P K R (Z P K R n) d l k E B o := Eq.trans rfl rfl
theorem Z_g {d : Option Nat} {t : Nat} {b : Bool} {o : ROp} : Z P K R (n + 1) (.o (⟨d, some (t, b), o⟩ :: l) :: k) E B = ZG P K R (Z P K R n) (E t) b d o l k E B := Eq.trans rfl rfl
theorem Z_skip : Z P K R (n + 1) (.c .skip :: k) E B = Z P K R n k E B := Eq.trans rfl rfl
theorem Z_reg : Z P K R (n + 1) (.c (.reg l) :: k) E B = Z P K R n (.o l :: k) E B := Eq.trans rfl rfl
theorem Z_regd {L : List DOp} : Z P K R (n + 1) (.c (.regd L) :: k) E B = Y P K R (.c (.regd L) :: k) E B := Eq.trans rfl rfl
theorem Z_seq {a b : RC} : Z P K R (n + 1) (.c (.seq a b) :: k) E B = Z P K R n (.c a :: .c b :: k) E B := Eq.trans rfl rfl
theorem Z_cond {c : Opd} {a b : RC} : Z P K R (n + 1) (.c (.cond c a b) :: k) E B = ZB (Z P K R n) (pev E c) a b k E B := Eq.trans rfl rfl
theorem Z_block {i : Nat} {a : RC} : Z P K R (n + 1) (.c (.block i a) :: k) E B = Z P K R n (.c a :: .blk i :: k) E B := Eq.trans rfl rfl
theorem Z_loop {a : RC} : Z P K R (n + 1) (.c (.loop a) :: k) E B = Y P K R (.c (.loop a) :: k) E B := Eq.trans rfl rfl
theorem Z_exit {i : Nat} : Z P K R (n + 1) (.c (.exit i) :: k) E B = ZX (Z P K R n) (itExit i k) E B := Eq.trans rfl rfl
theorem Z_ret : Z P K R (n + 1) (.c .ret :: k) E B = R none E B := Eq.trans rfl rfl
section
variable {z : Zn} {d : Option Nat} {t : Nat} {b c : Bool} {o : ROp}
theorem ZO_v {vo : VOp} : ZO P K R z d l k E B (.v vo) = ZV z (pop vo E B) d l k E := Eq.trans rfl rfl
theorem ZO_c {f : FuncId} {args : List Opd} : ZO P K R z d l k E B (.call f args) = Y P K R (.o (⟨d, none, .call f args⟩ :: l) :: k) E B := Eq.trans rfl rfl
theorem ZO_cv {f : Opd} {args : List Opd} : ZO P K R z d l k E B (.calv f args) = Y P K R (.o (⟨d, none, .calv f args⟩ :: l) :: k) E B := Eq.trans rfl rfl
theorem ZO_p {x : Opd} : ZO P K R z d l k E B (.pan x) = ZP R (pev E x) E B := Eq.trans rfl rfl
theorem ZG_tt : ZG P K R z (.bo true) true d o l k E B = ZO P K R z d l k E B o := Eq.trans rfl rfl
theorem ZG_ff : ZG P K R z (.bo false) false d o l k E B = ZO P K R z d l k E B o := Eq.trans rfl rfl
theorem ZG_tf : ZG P K R z (.bo true) false d o l k E B = z (.o l :: k) (E.put d (.tu [])) B := Eq.trans rfl rfl
theorem ZG_ft : ZG P K R z (.bo false) true d o l k E B = z (.o l :: k) (E.put d (.tu [])) B := Eq.trans rfl rfl
theorem ZG_u : ZG P K R z (.tu []) b d o l k E B = z (.o l :: k) (E.put d (.tu [])) B := Eq.trans rfl rfl
theorem ZG_b (h1 : c = true → ZG P K R z (.bo true) b d o l k E B) (h2 : c = false → ZG P K R z (.bo false) b d o l k E B) : ZG P K R z (.bo c) b d o l k E B := by cases c; exact h2 rfl; exact h1 rfl
theorem ZV_some {v : PV} : ZV z (some (v, B)) d l k E = z (.o l :: k) (E.put d v) B := Eq.trans rfl rfl
theorem ZX_some : ZX z (some k) E B = z k E B := Eq.trans rfl rfl
theorem ZB_t {p q : RC} : ZB z (.bo true) p q k E B = z (.c p :: k) E B := Eq.trans rfl rfl
theorem ZB_f {p q : RC} : ZB z (.bo false) p q k E B = z (.c q :: k) E B := Eq.trans rfl rfl
theorem ZB_b {p q : RC} (h1 : c = true → z (.c p :: k) E B) (h2 : c = false → z (.c q :: k) E B) : ZB z (.bo c) p q k E B := by cases c; exact h2 rfl; exact h1 rfl
theorem ZP_fc {t : TypeId} {v : PV} : ZP R (.fc t v) E B = R (some (.fc t v)) E B := Eq.trans rfl rfl
end
theorem itx_hit {i : Nat} : itExit i (.blk i :: k) = some k := by simp [itExit]
theorem itx_blk {i j : Nat} : itExit i (.blk j :: k) = if j = i then some k else itExit i k := by
  simp only [itExit, beq_iff_eq]
theorem itx_c {i : Nat} {c : RC} : itExit i (.c c :: k) = itExit i k := Eq.trans rfl rfl
theorem itx_o {i : Nat} : itExit i (.o l :: k) = itExit i k := Eq.trans rfl rfl
theorem itx_lp {i : Nat} {c : RC} : itExit i (.lp c :: k) = itExit i k := Eq.trans rfl rfl
/-! regions that draw -/
variable {l' : RL} {q : Nat} {rem : RL} {d : Option Nat} {rk : List Nat} {ck : Bool} {z : Zr} {x : ROper × List Nat × Bool} {c b : Bool} {o : ROp}
theorem ZR_nil : ZR P K R l' k q [] E B = Z P K R 2000 k E B := by cases q <;> exact Eq.trans rfl rfl
theorem ZR_o : ZR P K R l' k q ((⟨d, none, o⟩, rk, ck) :: rem) E B = ZRO P K R l' k q (⟨d, none, o⟩, rk, ck) rem E B (ZR P K R l' k (q + 1) rem) o := Eq.trans rfl rfl
theorem ZR_g {t : Nat} : ZR P K R l' k q ((⟨d, some (t, b), o⟩, rk, ck) :: rem) E B = ZRG P K R l' k q (⟨d, some (t, b), o⟩, rk, ck) rem E B (ZR P K R l' k (q + 1) rem) (E t) b o := Eq.trans rfl rfl
theorem ZRO_v {vo : VOp} : ZRO P K R l' k q x rem E B z (.v vo) = ZRV z (pop vo E B) x.2.2 (tch E vo) x.1.d E (YR P K R l' q (x :: rem) k E B) := Eq.trans rfl rfl
theorem ZRO_c {f : FuncId} {args : List Opd} : ZRO P K R l' k q x rem E B z (.call f args) = YR P K R l' q (x :: rem) k E B := Eq.trans rfl rfl
theorem ZRO_cv {f : Opd} {args : List Opd} : ZRO P K R l' k q x rem E B z (.calv f args) = YR P K R l' q (x :: rem) k E B := Eq.trans rfl rfl
theorem ZRG_tt : ZRG P K R l' k q x rem E B z (.bo true) true o = ZRO P K R l' k q x rem E B z o := Eq.trans rfl rfl
theorem ZRG_ff : ZRG P K R l' k q x rem E B z (.bo false) false o = ZRO P K R l' k q x rem E B z o := Eq.trans rfl rfl
theorem ZRG_tf : ZRG P K R l' k q x rem E B z (.bo true) false o = z (E.put x.1.d (.tu [])) B := Eq.trans rfl rfl
theorem ZRG_ft : ZRG P K R l' k q x rem E B z (.bo false) true o = z (E.put x.1.d (.tu [])) B := Eq.trans rfl rfl
theorem ZRG_u : ZRG P K R l' k q x rem E B z (.tu []) b o = z (E.put x.1.d (.tu [])) B := Eq.trans rfl rfl
theorem ZRG_b (h1 : c = true → ZRG P K R l' k q x rem E B z (.bo true) b o) (h2 : c = false → ZRG P K R l' k q x rem E B z (.bo false) b o) : ZRG P K R l' k q x rem E B z (.bo c) b o := by cases c; exact h2 rfl; exact h1 rfl
theorem ZRV_t {v : PV} {T : List Nat} {F : Prop} : ZRV z (some (v, B)) true T d E F = z (E.put d v) B := by simp [ZRV]
theorem ZRV_n {v : PV} {F : Prop} : ZRV z (some (v, B)) ck [] d E F = z (E.put d v) B := by simp [ZRV]
theorem ZRV_f {v : PV} {b : Nat} {T : List Nat} {F : Prop} : ZRV z (some (v, B)) false (b :: T) d E F = F := by simp [ZRV]
end

def bdB (P : Program) (f : FuncId) : Bool := match P.funcs[f]? with | some fn => fn.body.isSome && !(fn.name == "runtime.NumGoroutine") | none => false
theorem Bd_of {P : Program} {f : FuncId} (h : bdB P f = true) : Bd P f := by
  unfold bdB at h
  split at h
  · rename_i fn hf; exact ⟨fn, hf, h⟩
  · cases h

/-! ### Operations -/
section
variable {E : PE0} {B : List PB} {x y z : Opd}
theorem pop_mv : pop (.mv x) E B = some (pev E x, B) := Eq.trans rfl rfl
theorem pop_pick : pop (.pick x y z) E B = (ppick (pev E x) (pev E y) (pev E z)).map (·, B) := Eq.trans rfl rfl
theorem pop_alloc {z : List AV} : pop (.alloc z) E B = some (.pt B.length 0, B ++ [.va (z.map ofAV)]) := Eq.trans rfl rfl
theorem pop_box : pop (.box x) E B = (pev E x).cl.map fun l => (.pt B.length 0, B ++ [.va l]) := Eq.trans rfl rfl
theorem pop_bld {z : List AV} {ps : List Part} : pop (.bld z ps) E B = ((pfill E (z.map ofAV) ps).map .ag).map (·, B) := Eq.trans rfl rfl
theorem pop_bsl {n : Nat} {z : List AV} {ps : List Part} : pop (.bsl n z ps) E B = (pfill E (z.map ofAV) ps).bind fun l => pbsl B n l := Eq.trans rfl rfl
theorem pop_ld {n : Nat} : pop (.ld n x) E B = (pld n B (pev E x)).map (·, B) := Eq.trans rfl rfl
theorem pop_ld1 : pop (.ld1 x) E B = (pld1 B (pev E x)).map (·, B) := Eq.trans rfl rfl
theorem pop_sto {n : Nat} : pop (.sto n x y) E B = psto n B (pev E x) (pev E y) := Eq.trans rfl rfl
theorem pop_nilc : pop (.nilc x) E B = (pnilc (pev E x)).map (·, B) := Eq.trans rfl rfl
theorem pop_bin {op : BinOp} {te : EqT} {cn : Bool} : pop (.bin op te cn x y) E B = (pbin op te cn (pev E x) (pev E y)).map (·, B) := Eq.trans rfl rfl
theorem pop_un {op : UnOp} : pop (.un op x) E B = (pun op (pev E x)).map (·, B) := Eq.trans rfl rfl
theorem pop_cvi {k : IntKind} : pop (.cvi k x) E B = (pcvi k (pev E x)).map (·, B) := Eq.trans rfl rfl
theorem pop_mkif {t : TypeId} : pop (.mkif t x) E B = some (.fc t (pev E x), B) := Eq.trans rfl rfl
theorem pop_mkfn {f : Fn} {a c : List Opd} : pop (.mkfn f a c) E B = some (.fn f (a.map (pev E)) (c.map (pev E)), B) := Eq.trans rfl rfl
theorem pop_mks {bytes : Nat} {z : List AV} : pop (.mks bytes z x y) E B = pmks B bytes (z.map ofAV) (pev E x) (pev E y) := Eq.trans rfl rfl
theorem pop_slc {es : Nat} {lo hi mx : Option Opd} : pop (.slc es x lo hi mx) E B = (pslc es B E (pev E x) lo hi mx).map (·, B) := Eq.trans rfl rfl
theorem pop_fa {o : Nat} : pop (.fa o x) E B = (pfa o (pev E x)).map (·, B) := Eq.trans rfl rfl
theorem pop_fld {o n : Nat} {ag : Bool} : pop (.fld o n ag x) E B = (pfld o n ag (pev E x)).map (·, B) := Eq.trans rfl rfl
theorem pop_ia {es : Nat} : pop (.ia es x y) E B = (pia es B (pev E x) (pev E y)).map (·, B) := Eq.trans rfl rfl
theorem pop_iaa {n es : Nat} : pop (.iaa n es x y) E B = (piaa n es (pev E x) (pev E y)).map (·, B) := Eq.trans rfl rfl
theorem pop_ix {n es : Nat} {ag : Bool} : pop (.ix n es ag x y) E B = (pix n es ag (pev E x) (pev E y)).map (·, B) := Eq.trans rfl rfl
theorem pop_ext {i : Nat} : pop (.ext x i) E B = (pext i (pev E x)).map (·, B) := Eq.trans rfl rfl
theorem pop_len1 : pop (.len 1 x) E B = (plen B (pev E x)).map (·, B) := Eq.trans rfl rfl
theorem pop_len0 : pop (.len 0 x) E B = (plen0 (pev E x)).map (·, B) := Eq.trans rfl rfl
theorem pop_lenk {n : Nat} : pop (.lenk n) E B = some (.it .i64 n, B) := Eq.trans rfl rfl
theorem pop_mm {mx : Bool} {r : List Opd} : pop (.mm mx (x :: r)) E B = (pmmL mx (pev E x) (r.map (pev E))).map (·, B) := Eq.trans rfl rfl
theorem pop_app {es bytes : Nat} : pop (.app es bytes x y) E B = (pcont es B (pev E y)).bind fun m => papp es bytes B (pev E x) m := Eq.trans rfl rfl
theorem tch_sto {n : Nat} : tch E (.sto n x y) = ptch (pev E x) := Eq.trans rfl rfl
theorem tch_app {es bytes : Nat} : tch E (.app es bytes x y) = ptch (pev E x) := Eq.trans rfl rfl
theorem pev_t {t : Nat} : pev E (.t t) = E t := Eq.trans rfl rfl
theorem pev_k {v : AV} : pev E (.k v) = ofAV v := Eq.trans rfl rfl
theorem pev_f {f : FuncId} : pev E (.f f) = .fn (.func f) [] [] := Eq.trans rfl rfl
theorem st_ap' {d t : Nat} {v : PV} : (PE0.st E d v) t = if t = d then v else E t := Eq.trans rfl rfl
theorem put_s {d : Nat} {v : PV} : PE0.put E (some d) v = PE0.st E d v := Eq.trans rfl rfl
theorem put_n {v : PV} : PE0.put E none v = E := Eq.trans rfl rfl
theorem penv_0 {v : PV} {l : List PV} : penv (v :: l) 0 = v := Eq.trans rfl rfl
theorem penv_s {v : PV} {l : List PV} {n : Nat} : penv (v :: l) (n + 1) = penv l n := Eq.trans rfl rfl
theorem penv_n {n : Nat} : penv [] n = .tu [] := Eq.trans rfl rfl
theorem ofAV_bo {x : Bool} : ofAV (.bo x) = .bo x := Eq.trans rfl rfl
theorem ofAV_it {k : IntKind} {n : Int} : ofAV (.it k n) = .it k n := Eq.trans rfl rfl
theorem ofAV_st {x : ByteArray} : ofAV (.st x) = .st x := Eq.trans rfl rfl
theorem ofAV_np : ofAV .np = .np := Eq.trans rfl rfl
theorem ofAV_nf : ofAV .nf = .nf := Eq.trans rfl rfl
theorem ofAV_ni : ofAV .ni = .ni := Eq.trans rfl rfl
theorem ofAV_sn : ofAV .sn = .sn := Eq.trans rfl rfl
theorem ofAV_ag {l : List AV} : ofAV (.ag l) = .ag (l.map ofAV) := by simp only [ofAV, ofAVL_map]
theorem pcells_pt {b o : Nat} : pcells B (.pt b o) = match B[b]? with | some (.va l) => some (l, o) | some (.fv l) => some (l, o) | _ => none := Eq.trans rfl rfl
theorem pcells_pe {l : List PV} {o : Nat} : pcells B (.pe l o) = some (l, o) := Eq.trans rfl rfl
theorem pbin_it {op : BinOp} {te : EqT} {cn : Bool} {k k' : IntKind} {a b : Int} : pbin op te cn (.it k a) (.it k' b) = (vbin op te cn (.it k a) (.it k' b)).map ofAV := Eq.trans rfl rfl
theorem pbin_bo {op : BinOp} {te : EqT} {cn : Bool} {a b : Bool} : pbin op te cn (.bo a) (.bo b) = (vbin op te cn (.bo a) (.bo b)).map ofAV := Eq.trans rfl rfl
theorem pbin_ag {op : BinOp} {te : EqT} {cn : Bool} {l m : List PV} : pbin op te cn (.ag l) (.ag m) = (tvL l).bind fun l => (tvL m).bind fun m => (vbin op te cn (.ag l) (.ag m)).map ofAV := Eq.trans rfl rfl
theorem vbin_age {s : Nat} {ls : List (Nat × Nat)} {cn : Bool} {xs ys : List AV} : vbin .eql (.ag s ls) cn (.ag xs) (.ag ys) = (if xs.length = s ∧ ys.length = s then alleq xs ys ls else none).map .bo := Eq.trans rfl rfl
theorem vbin_agn {s : Nat} {ls : List (Nat × Nat)} {cn : Bool} {xs ys : List AV} : vbin .neq (.ag s ls) cn (.ag xs) (.ag ys) = (if xs.length = s ∧ ys.length = s then alleq xs ys ls else none).map fun e => .bo (!e) := Eq.trans rfl rfl
theorem sceqK_0 {k : IntKind} {a b : Int} : sceqK 0 (.it k a) (.it k b) = some (a == b) := by simp [sceqK]
theorem sceqK_1 {a b : Bool} : sceqK 1 (.bo a) (.bo b) = some (a == b) := Eq.trans rfl rfl
theorem pun_not {a : Bool} : pun .not (.bo a) = some (.bo (!a)) := Eq.trans rfl rfl
theorem pun_neg {k : IntKind} {a : Int} : pun .neg (.it k a) = some (.it k (k.wrap (0 - a))) := Eq.trans rfl rfl
theorem ppick_t {a b : PV} : ppick (.bo true) a b = some a := Eq.trans rfl rfl
theorem ppick_f {a b : PV} : ppick (.bo false) a b = some b := Eq.trans rfl rfl
theorem pcvi_it {k k' : IntKind} {n : Int} : pcvi k (.it k' n) = some (.it k (k.wrap n)) := Eq.trans rfl rfl
theorem pfa_pt {b p o : Nat} : pfa o (.pt b p) = some (.pt b (p + o)) := Eq.trans rfl rfl
theorem pfa_pe {l : List PV} {p o : Nat} : pfa o (.pe l p) = some (.pe l (p + o)) := Eq.trans rfl rfl
theorem pfa_pg {es b i p o : Nat} : pfa o (.pg es b i p) = some (.pg es b i (p + o)) := Eq.trans rfl rfl
theorem pia_vs {es w es' : Nat} {l : List PV} {k : IntKind} {i : Int} : pia es B (.vs w es' l) (.it k i) = if 0 ≤ i ∧ i < l.length ∧ es' = es then (l[i.toNat]?).bind fun e => e.cl.map fun c => .pe c 0 else none := Eq.trans rfl rfl
theorem pia_gr {es b : Nat} {k : IntKind} {i : Int} : pia es B (.gr b) (.it k i) = (pblk B b).bind fun p => if 0 ≤ i ∧ i < p.2.length ∧ p.1 = es then some (.pg es b i.toNat 0) else none := Eq.trans rfl rfl
theorem pia_gp {es es' b lo n : Nat} {k : IntKind} {i : Int} : pia es B (.gp es' b lo n) (.it k i) = (pblk B b).bind fun p => if 0 ≤ i ∧ i < n ∧ p.1 = es ∧ es' = es ∧ lo + n ≤ p.2.length then some (.pg es b (lo + i.toNat) 0) else none := Eq.trans rfl rfl
theorem cl_ag {l : List PV} : (PV.ag l).cl = some l := Eq.trans rfl rfl
theorem cl_it {k : IntKind} {n : Int} : (PV.it k n).cl = some [.it k n] := Eq.trans rfl rfl
theorem cl_bo {x : Bool} : (PV.bo x).cl = some [.bo x] := Eq.trans rfl rfl
theorem cl_vs {w es : Nat} {l : List PV} : (PV.vs w es l).cl = some [.vs w es l] := Eq.trans rfl rfl
theorem cl_gr {b : Nat} : (PV.gr b).cl = some [.gr b] := Eq.trans rfl rfl
theorem cl_gp {es b lo n : Nat} : (PV.gp es b lo n).cl = some [.gp es b lo n] := Eq.trans rfl rfl
theorem cl_sn : PV.cl .sn = some [.sn] := Eq.trans rfl rfl
theorem cl_np : PV.cl .np = some [.np] := Eq.trans rfl rfl
theorem cl_nf : PV.cl .nf = some [.nf] := Eq.trans rfl rfl
theorem cl_ni : PV.cl .ni = some [.ni] := Eq.trans rfl rfl
theorem cl_pt {b o : Nat} : (PV.pt b o).cl = some [.pt b o] := Eq.trans rfl rfl
theorem cl_pe {l : List PV} {o : Nat} : (PV.pe l o).cl = some [.pe l o] := Eq.trans rfl rfl
theorem cl_fn {f : Fn} {a c : List PV} : (PV.fn f a c).cl = some [.fn f a c] := Eq.trans rfl rfl
theorem pfill_n {cs : List PV} : pfill E cs [] = some cs := Eq.trans rfl rfl
theorem pfill_c {cs : List PV} {o n : Nat} {x : Opd} {r : List Part} : pfill E cs (⟨o, n, x⟩ :: r) = (pev E x).cl.bind fun m => if m.length = n ∧ o + n ≤ cs.length then pfill E (cs.take o ++ (m ++ cs.drop (o + n))) r else none := Eq.trans rfl rfl
theorem pbsl_0 : pbsl B 0 [] = some (.vs 2 0 [], B) := Eq.trans rfl rfl
theorem pcont_sn {es : Nat} : pcont es B .sn = some [] := Eq.trans rfl rfl
theorem pcont_vs {es w : Nat} {l : List PV} : pcont es B (.vs w es l) = some l := by simp [pcont]
theorem pcont_em {es : Nat} {es' : Nat} : pcont es B (.vs 2 es' []) = some [] := by simp [pcont]
theorem pbase_em {es es' : Nat} : pbase es B (.vs 2 es' []) = some (true, [], none) := by simp [pbase]
theorem pbase_sn {es : Nat} : pbase es B .sn = some (true, [], none) := Eq.trans rfl rfl
theorem pbase_vs {es : Nat} {l : List PV} : pbase es B (.vs 2 es l) = some (l.isEmpty, l, none) := by simp [pbase]
theorem plen_sn : plen B .sn = some (.it .i64 0) := Eq.trans rfl rfl
theorem plen_vs {w es : Nat} {l : List PV} : plen B (.vs w es l) = some (.it .i64 l.length) := Eq.trans rfl rfl
theorem plen_gp {es b lo n : Nat} : plen B (.gp es b lo n) = some (.it .i64 n) := Eq.trans rfl rfl
theorem plen_gr {b : Nat} : plen B (.gr b) = match B[b]? with | some (.gs _ _ l) => some (.it .i64 l.length) | some (.fz _ l) => some (.it .i64 l.length) | _ => none := Eq.trans rfl rfl
theorem prv_n : prv E B [] = some [] := Eq.trans rfl rfl
theorem prv_t {t : Nat} {r : List RRes} : prv E B (.t t :: r) = (prv E B r).map (E t :: ·) := Eq.trans rfl rfl
theorem prv_c {t n : Nat} {r : List RRes} : prv E B (.c t n :: r) = (pld n B (E t)).bind fun v => (prv E B r).map (v :: ·) := Eq.trans rfl rfl
theorem prv_c1 {t : Nat} {r : List RRes} : prv E B (.c1 t :: r) = (pld1 B (E t)).bind fun v => (prv E B r).map (v :: ·) := Eq.trans rfl rfl
theorem ptup_1 {v : PV} : ptup [v] = v := Eq.trans rfl rfl
theorem ptup_0 : ptup [] = .tu [] := Eq.trans rfl rfl
theorem ptup_2 {v u : PV} {l : List PV} : ptup (v :: u :: l) = .tu (v :: u :: l) := Eq.trans rfl rfl
theorem lv_n {t : Nat} : lv [] t = .dd := Eq.trans rfl rfl
theorem lv_c {t s : Nat} {v : PV} {r : List (Nat × PV)} : lv ((s, v) :: r) t = if t = s then v else lv r t := Eq.trans rfl rfl
theorem ends_n {K : Nat} {rs : List RRes} {B1 : List PB} {v : PV} : Ends K rs B1 v none E B = ∃ vs, prv E B rs = some vs ∧ Wv K B (ptup vs) B1 v := Eq.trans rfl rfl
end
end Go.AX
