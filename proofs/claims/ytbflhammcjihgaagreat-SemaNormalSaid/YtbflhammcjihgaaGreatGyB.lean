/- Parts: AyKt AyL AyM AyN AyNb AyO AyP AyQ. -/
import Derived.Test.YtbflhammcjihgaaGreatGyA
import Derived.IntWalk
import Derived.Test.YtbflhammcjihgaaGreatGxB
import Derived.DataShut
import Derived.OpenShut
import Derived.Deep.Slices
import Derived.DataElems
set_option linter.unusedSimpArgs false
set_option linter.unusedVariables false
section
namespace Go.AX
open Go
section
variable {H H' : AH} {a : AV}
theorem vld_base {n : Nat} (h : ∀ X, a.bk = some X → H'.g X = H.g X) : vld n H' a = vld n H a := by
 cases a <;> simp only [vld]
 rw [AH.rd, AH.rd, h _ rfl]
theorem vld1_base (h : ∀ X, a.bk = some X → H'.g X = H.g X) : vld1 H' a = vld1 H a := by
 cases a <;> simp only [vld1]
 rw [h _ rfl]
theorem via_base {es : Nat} {c : AV} (h : ∀ X, a.bk = some X → H'.g X = H.g X) : via es H' a c = via es H a c := by
 cases a <;> cases c <;> simp only [via]
 rw [h _ rfl]
theorem vlen1_base : vlen 1 H' a = vlen 1 H a := by
 cases a <;> rfl
theorem vslc_base {es : Nat} {E : Env} {lo hi mx : Option Opd} (h : ∀ X, a.bk = some X → H'.g X = H.g X) : vslc es H' E a lo hi mx = vslc es H E a lo hi mx := by
 cases a <;> simp only [vslc]
 rw [h _ rfl]
end
def baseOf : VOp → Option Opd
 | .ld _ x => some x
 | .ld1 x => some x
 | .ia _ x _ => some x
 | .len 1 x => some x
 | .slc _ x _ _ _ => some x
 | _ => none
theorem vop_base {vo : VOp} {x : Opd} {E : Env} {H H' : AH} {a : AV} (hb : baseOf vo = some x) (h : ∀ X, (ev E x).bk = some X → H'.g X = H.g X) (hv : vop vo E H = some (a, H)) : vop vo E H' = some (a, H') := by
 unfold baseOf at hb
 split at hb
 all_goals first | (cases hb; done) | skip
 all_goals (simp only [Option.some.injEq] at hb; subst hb)
 all_goals simp only [vop, Option.map_eq_some_iff, Prod.mk.injEq] at hv ⊢
 ·obtain ⟨c, h1, h2, _⟩ := hv; exact ⟨c, by rw [vld_base h]; exact h1, h2, trivial⟩
 ·obtain ⟨c, h1, h2, _⟩ := hv; exact ⟨c, by rw [vld1_base h]; exact h1, h2, trivial⟩
 ·obtain ⟨c, h1, h2, _⟩ := hv; exact ⟨c, by rw [via_base h]; exact h1, h2, trivial⟩
 ·obtain ⟨c, h1, h2, _⟩ := hv; exact ⟨c, by rw [vlen1_base (H := H)]; exact h1, h2, trivial⟩
 ·obtain ⟨c, h1, h2, _⟩ := hv; exact ⟨c, by rw [vslc_base h]; exact h1, h2, trivial⟩
end Go.AX
end
section
namespace Go.AX
open Go
section
variable {P : Program} {K n : Nat} {R : PEnd} {k : List It} {E : PE0} {B : List PB} {l : List ROper}
theorem Z_nil : Z P K R (n + 1) [] E B = R none E B := Eq.trans rfl rfl
theorem Z_blk {i : Nat} : Z P K R (n + 1) (.blk i :: k) E B = Z P K R n k E B := Eq.trans rfl rfl
theorem Z_lp {c : RC} : Z P K R (n + 1) (.lp c :: k) E B = Y P K R (.lp c :: k) E B := Eq.trans rfl rfl
theorem Z_onil : Z P K R (n + 1) (.o [] :: k) E B = Z P K R n k E B := Eq.trans rfl rfl
theorem Z_o {d : Option Nat} {o : ROp} : Z P K R (n + 1) (.o (⟨d, none, o⟩ :: l) :: k) E B = ZO P K R (Z P K R n) d l k E B o := Eq.trans rfl rfl
theorem Z_g {d : Option Nat} {t : Nat} {b : Bool} {o : ROp} : Z P K R (n + 1) (.o (⟨d, some (t, b), o⟩ :: l) :: k) E B = ZG P K R (Z P K R n) (E t) b d o l k E B := Eq.trans rfl rfl
theorem Z_skip : Z P K R (n + 1) (.c .skip :: k) E B = Z P K R n k E B := Eq.trans rfl rfl
theorem Z_reg : Z P K R (n + 1) (.c (.reg l) :: k) E B = Z P K R n (.o l :: k) E B := Eq.trans rfl rfl
theorem Z_regd {L : List DOp} : Z P K R (n + 1) (.c (.regd L) :: k) E B = Y P K R (.c (.regd L) :: k) E B := Eq.trans rfl rfl
theorem Z_seq {a b : RC} : Z P K R (n + 1) (.c (.seq a b) :: k) E B = Z P K R n (.c a :: .c b :: k) E B := Eq.trans rfl rfl
theorem Z_cond {c : Opd} {a b : RC} : Z P K R (n + 1) (.c (.cond c a b) :: k) E B = ZB (Z P K R n) (pev E c) a b k E B := Eq.trans rfl rfl
theorem Z_block {i : Nat} {a : RC} : Z P K R (n + 1) (.c (.block i a) :: k) E B = Z P K R n (.c a :: .blk i :: k) E B := Eq.trans rfl rfl
theorem Z_loop {a : RC} : Z P K R (n + 1) (.c (.loop a) :: k) E B = Y P K R (.c (.loop a) :: k) E B := Eq.trans rfl rfl
theorem Z_exit {i : Nat} : Z P K R (n + 1) (.c (.exit i) :: k) E B = ZX (Z P K R n) (itExit i k) E B := Eq.trans rfl rfl
theorem Z_ret : Z P K R (n + 1) (.c .ret :: k) E B = R none E B := Eq.trans rfl rfl
section
variable {z : Zn} {d : Option Nat} {t : Nat} {b c : Bool} {o : ROp}
theorem ZO_v {vo : VOp} : ZO P K R z d l k E B (.v vo) = ZV z (pop vo E B) d l k E := Eq.trans rfl rfl
theorem ZO_c {f : FuncId} {args : List Opd} : ZO P K R z d l k E B (.call f args) = Y P K R (.o (⟨d, none, .call f args⟩ :: l) :: k) E B := Eq.trans rfl rfl
theorem ZO_cv {f : Opd} {args : List Opd} : ZO P K R z d l k E B (.calv f args) = Y P K R (.o (⟨d, none, .calv f args⟩ :: l) :: k) E B := Eq.trans rfl rfl
theorem ZO_p {x : Opd} : ZO P K R z d l k E B (.pan x) = ZP R (pev E x) E B := Eq.trans rfl rfl
theorem ZG_tt : ZG P K R z (.bo true) true d o l k E B = ZO P K R z d l k E B o := Eq.trans rfl rfl
theorem ZG_ff : ZG P K R z (.bo false) false d o l k E B = ZO P K R z d l k E B o := Eq.trans rfl rfl
theorem ZG_tf : ZG P K R z (.bo true) false d o l k E B = z (.o l :: k) (E.put d (.tu [])) B := Eq.trans rfl rfl
theorem ZG_ft : ZG P K R z (.bo false) true d o l k E B = z (.o l :: k) (E.put d (.tu [])) B := Eq.trans rfl rfl
theorem ZG_u : ZG P K R z (.tu []) b d o l k E B = z (.o l :: k) (E.put d (.tu [])) B := Eq.trans rfl rfl
theorem ZV_some {v : PV} : ZV z (some (v, B)) d l k E = z (.o l :: k) (E.put d v) B := Eq.trans rfl rfl
theorem ZX_some : ZX z (some k) E B = z k E B := Eq.trans rfl rfl
theorem ZB_t {p q : RC} : ZB z (.bo true) p q k E B = z (.c p :: k) E B := Eq.trans rfl rfl
theorem ZB_f {p q : RC} : ZB z (.bo false) p q k E B = z (.c q :: k) E B := Eq.trans rfl rfl
theorem ZP_fc {t : TypeId} {v : PV} : ZP R (.fc t v) E B = R (some (.fc t v)) E B := Eq.trans rfl rfl
end
theorem itx_hit {i : Nat} : itExit i (.blk i :: k) = some k := by simp [itExit]
theorem itx_blk {i j : Nat} : itExit i (.blk j :: k) = if j = i then some k else itExit i k := by
 simp only [itExit, beq_iff_eq]
theorem itx_c {i : Nat} {c : RC} : itExit i (.c c :: k) = itExit i k := Eq.trans rfl rfl
theorem itx_o {i : Nat} : itExit i (.o l :: k) = itExit i k := Eq.trans rfl rfl
theorem itx_lp {i : Nat} {c : RC} : itExit i (.lp c :: k) = itExit i k := Eq.trans rfl rfl
variable {l' : RL} {q : Nat} {rem : RL} {d : Option Nat} {rk : List Nat} {ck : Bool} {z : Zr} {x : ROper × List Nat × Bool} {c b : Bool} {o : ROp}
theorem ZR_nil : ZR P K R l' k q [] E B = Z P K R 2000 k E B := by cases q <;> exact Eq.trans rfl rfl
theorem ZR_o : ZR P K R l' k q ((⟨d, none, o⟩, rk, ck) :: rem) E B = ZRO P K R l' k q (⟨d, none, o⟩, rk, ck) rem E B (ZR P K R l' k (q + 1) rem) o := Eq.trans rfl rfl
theorem ZR_g {t : Nat} : ZR P K R l' k q ((⟨d, some (t, b), o⟩, rk, ck) :: rem) E B = ZRG P K R l' k q (⟨d, some (t, b), o⟩, rk, ck) rem E B (ZR P K R l' k (q + 1) rem) (E t) b o := Eq.trans rfl rfl
theorem ZRO_v {vo : VOp} : ZRO P K R l' k q x rem E B z (.v vo) = ZRV z (pop vo E B) x.2.2 (tch E vo) x.1.d E (YR P K R l' q (x :: rem) k E B) := Eq.trans rfl rfl
theorem ZRO_c {f : FuncId} {args : List Opd} : ZRO P K R l' k q x rem E B z (.call f args) = YR P K R l' q (x :: rem) k E B := Eq.trans rfl rfl
theorem ZRO_cv {f : Opd} {args : List Opd} : ZRO P K R l' k q x rem E B z (.calv f args) = YR P K R l' q (x :: rem) k E B := Eq.trans rfl rfl
theorem ZRG_tt : ZRG P K R l' k q x rem E B z (.bo true) true o = ZRO P K R l' k q x rem E B z o := Eq.trans rfl rfl
theorem ZRG_ff : ZRG P K R l' k q x rem E B z (.bo false) false o = ZRO P K R l' k q x rem E B z o := Eq.trans rfl rfl
theorem ZRG_tf : ZRG P K R l' k q x rem E B z (.bo true) false o = z (E.put x.1.d (.tu [])) B := Eq.trans rfl rfl
theorem ZRG_ft : ZRG P K R l' k q x rem E B z (.bo false) true o = z (E.put x.1.d (.tu [])) B := Eq.trans rfl rfl
theorem ZRG_u : ZRG P K R l' k q x rem E B z (.tu []) b o = z (E.put x.1.d (.tu [])) B := Eq.trans rfl rfl
theorem ZRV_t {v : PV} {T : List Nat} {F : Prop} : ZRV z (some (v, B)) true T d E F = z (E.put d v) B := by simp [ZRV]
theorem ZRV_n {v : PV} {F : Prop} : ZRV z (some (v, B)) ck [] d E F = z (E.put d v) B := by simp [ZRV]
theorem ZRV_f {v : PV} {b : Nat} {T : List Nat} {F : Prop} : ZRV z (some (v, B)) false (b :: T) d E F = F := by simp [ZRV]
end
def bdB (P : Program) (f : FuncId) : Bool := match P.funcs[f]? with | some fn => fn.body.isSome && !(fn.name == "runtime.NumGoroutine") | none => false
theorem Bd_of {P : Program} {f : FuncId} (h : bdB P f = true) : Bd P f := by
 unfold bdB at h
 split at h
 ·rename_i fn hf; exact ⟨fn, hf, h⟩
 ·cases h
section
variable {E : PE0} {B : List PB} {x y z : Opd}
theorem pop_mv : pop (.mv x) E B = some (pev E x, B) := Eq.trans rfl rfl
theorem pop_pick : pop (.pick x y z) E B = (ppick (pev E x) (pev E y) (pev E z)).map (·, B) := Eq.trans rfl rfl
theorem pop_alloc {z : List AV} : pop (.alloc z) E B = some (.pt B.length 0, B ++ [.va (z.map ofAV)]) := Eq.trans rfl rfl
theorem pop_box : pop (.box x) E B = (pev E x).cl.map fun l => (.pt B.length 0, B ++ [.va l]) := Eq.trans rfl rfl
theorem pop_bld {z : List AV} {ps : List Part} : pop (.bld z ps) E B = ((pfill E (z.map ofAV) ps).map .ag).map (·, B) := Eq.trans rfl rfl
theorem pop_bsl {n : Nat} {z : List AV} {ps : List Part} : pop (.bsl n z ps) E B = (pfill E (z.map ofAV) ps).bind fun l => pbsl B n l := Eq.trans rfl rfl
theorem pop_ld {n : Nat} : pop (.ld n x) E B = (pld n B (pev E x)).map (·, B) := Eq.trans rfl rfl
theorem pop_ld1 : pop (.ld1 x) E B = (pld1 B (pev E x)).map (·, B) := Eq.trans rfl rfl
theorem pop_sto {n : Nat} : pop (.sto n x y) E B = psto n B (pev E x) (pev E y) := Eq.trans rfl rfl
theorem pop_nilc : pop (.nilc x) E B = (pnilc (pev E x)).map (·, B) := Eq.trans rfl rfl
theorem pop_bin {op : BinOp} {te : EqT} {cn : Bool} : pop (.bin op te cn x y) E B = (pbin op te cn (pev E x) (pev E y)).map (·, B) := Eq.trans rfl rfl
theorem pop_un {op : UnOp} : pop (.un op x) E B = (pun op (pev E x)).map (·, B) := Eq.trans rfl rfl
theorem pop_cvi {k : IntKind} : pop (.cvi k x) E B = (pcvi k (pev E x)).map (·, B) := Eq.trans rfl rfl
theorem pop_mkif {t : TypeId} : pop (.mkif t x) E B = some (.fc t (pev E x), B) := Eq.trans rfl rfl
theorem pop_mkfn {f : Fn} {a c : List Opd} : pop (.mkfn f a c) E B = some (.fn f (a.map (pev E)) (c.map (pev E)), B) := Eq.trans rfl rfl
theorem pop_mks {bytes : Nat} {z : List AV} : pop (.mks bytes z x y) E B = pmks B bytes (z.map ofAV) (pev E x) (pev E y) := Eq.trans rfl rfl
theorem pop_slc {es : Nat} {lo hi mx : Option Opd} : pop (.slc es x lo hi mx) E B = (pslc es B E (pev E x) lo hi mx).map (·, B) := Eq.trans rfl rfl
theorem pop_fa {o : Nat} : pop (.fa o x) E B = (pfa o (pev E x)).map (·, B) := Eq.trans rfl rfl
theorem pop_fld {o n : Nat} {ag : Bool} : pop (.fld o n ag x) E B = (pfld o n ag (pev E x)).map (·, B) := Eq.trans rfl rfl
theorem pop_ia {es : Nat} : pop (.ia es x y) E B = (pia es B (pev E x) (pev E y)).map (·, B) := Eq.trans rfl rfl
theorem pop_iaa {n es : Nat} : pop (.iaa n es x y) E B = (piaa n es (pev E x) (pev E y)).map (·, B) := Eq.trans rfl rfl
theorem pop_ix {n es : Nat} {ag : Bool} : pop (.ix n es ag x y) E B = (pix n es ag (pev E x) (pev E y)).map (·, B) := Eq.trans rfl rfl
theorem pop_ext {i : Nat} : pop (.ext x i) E B = (pext i (pev E x)).map (·, B) := Eq.trans rfl rfl
theorem pop_len1 : pop (.len 1 x) E B = (plen B (pev E x)).map (·, B) := Eq.trans rfl rfl
theorem pop_len0 : pop (.len 0 x) E B = (plen0 (pev E x)).map (·, B) := Eq.trans rfl rfl
theorem pop_lenk {n : Nat} : pop (.lenk n) E B = some (.it .i64 n, B) := Eq.trans rfl rfl
theorem pop_mm {mx : Bool} {r : List Opd} : pop (.mm mx (x :: r)) E B = (pmmL mx (pev E x) (r.map (pev E))).map (·, B) := Eq.trans rfl rfl
theorem pop_app {es bytes : Nat} : pop (.app es bytes x y) E B = (pcont es B (pev E y)).bind fun m => papp es bytes B (pev E x) m := Eq.trans rfl rfl
theorem tch_sto {n : Nat} : tch E (.sto n x y) = ptch (pev E x) := Eq.trans rfl rfl
theorem tch_app {es bytes : Nat} : tch E (.app es bytes x y) = ptch (pev E x) := Eq.trans rfl rfl
theorem pev_t {t : Nat} : pev E (.t t) = E t := Eq.trans rfl rfl
theorem pev_k {v : AV} : pev E (.k v) = ofAV v := Eq.trans rfl rfl
theorem pev_f {f : FuncId} : pev E (.f f) = .fn (.func f) [] [] := Eq.trans rfl rfl
theorem st_ap' {d t : Nat} {v : PV} : (PE0.st E d v) t = if t = d then v else E t := Eq.trans rfl rfl
theorem put_s {d : Nat} {v : PV} : PE0.put E (some d) v = PE0.st E d v := Eq.trans rfl rfl
theorem put_n {v : PV} : PE0.put E none v = E := Eq.trans rfl rfl
theorem penv_0 {v : PV} {l : List PV} : penv (v :: l) 0 = v := Eq.trans rfl rfl
theorem penv_s {v : PV} {l : List PV} {n : Nat} : penv (v :: l) (n + 1) = penv l n := Eq.trans rfl rfl
theorem penv_n {n : Nat} : penv [] n = .tu [] := Eq.trans rfl rfl
theorem ofAV_bo {x : Bool} : ofAV (.bo x) = .bo x := Eq.trans rfl rfl
theorem ofAV_it {k : IntKind} {n : Int} : ofAV (.it k n) = .it k n := Eq.trans rfl rfl
theorem ofAV_st {x : ByteArray} : ofAV (.st x) = .st x := Eq.trans rfl rfl
theorem ofAV_np : ofAV .np = .np := Eq.trans rfl rfl
theorem ofAV_nf : ofAV .nf = .nf := Eq.trans rfl rfl
theorem ofAV_ni : ofAV .ni = .ni := Eq.trans rfl rfl
theorem ofAV_sn : ofAV .sn = .sn := Eq.trans rfl rfl
theorem ofAV_ag {l : List AV} : ofAV (.ag l) = .ag (l.map ofAV) := by simp only [ofAV, ofAVL_map]
theorem pcells_pt {b o : Nat} : pcells B (.pt b o) = match B[b]? with | some (.va l) => some (l, o) | some (.fv l) => some (l, o) | _ => none := Eq.trans rfl rfl
theorem pcells_pe {l : List PV} {o : Nat} : pcells B (.pe l o) = some (l, o) := Eq.trans rfl rfl
theorem pbin_it {op : BinOp} {te : EqT} {cn : Bool} {k k' : IntKind} {a b : Int} : pbin op te cn (.it k a) (.it k' b) = (vbin op te cn (.it k a) (.it k' b)).map ofAV := Eq.trans rfl rfl
theorem pbin_bo {op : BinOp} {te : EqT} {cn : Bool} {a b : Bool} : pbin op te cn (.bo a) (.bo b) = (vbin op te cn (.bo a) (.bo b)).map ofAV := Eq.trans rfl rfl
theorem pbin_ag {op : BinOp} {te : EqT} {cn : Bool} {l m : List PV} : pbin op te cn (.ag l) (.ag m) = (tvL l).bind fun l => (tvL m).bind fun m => (vbin op te cn (.ag l) (.ag m)).map ofAV := Eq.trans rfl rfl
theorem vbin_age {s : Nat} {ls : List (Nat × Nat)} {cn : Bool} {xs ys : List AV} : vbin .eql (.ag s ls) cn (.ag xs) (.ag ys) = (if xs.length = s ∧ ys.length = s then alleq xs ys ls else none).map .bo := Eq.trans rfl rfl
theorem vbin_agn {s : Nat} {ls : List (Nat × Nat)} {cn : Bool} {xs ys : List AV} : vbin .neq (.ag s ls) cn (.ag xs) (.ag ys) = (if xs.length = s ∧ ys.length = s then alleq xs ys ls else none).map fun e => .bo (!e) := Eq.trans rfl rfl
theorem sceqK_0 {k : IntKind} {a b : Int} : sceqK 0 (.it k a) (.it k b) = some (a == b) := by simp [sceqK]
theorem sceqK_1 {a b : Bool} : sceqK 1 (.bo a) (.bo b) = some (a == b) := Eq.trans rfl rfl
theorem pun_not {a : Bool} : pun .not (.bo a) = some (.bo (!a)) := Eq.trans rfl rfl
theorem pun_neg {k : IntKind} {a : Int} : pun .neg (.it k a) = some (.it k (k.wrap (0 - a))) := Eq.trans rfl rfl
theorem ppick_t {a b : PV} : ppick (.bo true) a b = some a := Eq.trans rfl rfl
theorem ppick_f {a b : PV} : ppick (.bo false) a b = some b := Eq.trans rfl rfl
theorem pcvi_it {k k' : IntKind} {n : Int} : pcvi k (.it k' n) = some (.it k (k.wrap n)) := Eq.trans rfl rfl
theorem pfa_pt {b p o : Nat} : pfa o (.pt b p) = some (.pt b (p + o)) := Eq.trans rfl rfl
theorem pfa_pe {l : List PV} {p o : Nat} : pfa o (.pe l p) = some (.pe l (p + o)) := Eq.trans rfl rfl
theorem pfa_pg {es b i p o : Nat} : pfa o (.pg es b i p) = some (.pg es b i (p + o)) := Eq.trans rfl rfl
theorem pia_vs {es w es' : Nat} {l : List PV} {k : IntKind} {i : Int} : pia es B (.vs w es' l) (.it k i) = if 0 ≤ i ∧ i < l.length ∧ es' = es then (l[i.toNat]?).bind fun e => e.cl.map fun c => .pe c 0 else none := Eq.trans rfl rfl
theorem cl_ag {l : List PV} : (PV.ag l).cl = some l := Eq.trans rfl rfl
theorem cl_it {k : IntKind} {n : Int} : (PV.it k n).cl = some [.it k n] := Eq.trans rfl rfl
theorem cl_bo {x : Bool} : (PV.bo x).cl = some [.bo x] := Eq.trans rfl rfl
theorem cl_vs {w es : Nat} {l : List PV} : (PV.vs w es l).cl = some [.vs w es l] := Eq.trans rfl rfl
theorem cl_gr {b : Nat} : (PV.gr b).cl = some [.gr b] := Eq.trans rfl rfl
theorem cl_gp {es b lo n : Nat} : (PV.gp es b lo n).cl = some [.gp es b lo n] := Eq.trans rfl rfl
theorem cl_sn : PV.cl .sn = some [.sn] := Eq.trans rfl rfl
theorem cl_np : PV.cl .np = some [.np] := Eq.trans rfl rfl
theorem cl_nf : PV.cl .nf = some [.nf] := Eq.trans rfl rfl
theorem cl_ni : PV.cl .ni = some [.ni] := Eq.trans rfl rfl
theorem cl_pt {b o : Nat} : (PV.pt b o).cl = some [.pt b o] := Eq.trans rfl rfl
theorem cl_pe {l : List PV} {o : Nat} : (PV.pe l o).cl = some [.pe l o] := Eq.trans rfl rfl
theorem cl_fn {f : Fn} {a c : List PV} : (PV.fn f a c).cl = some [.fn f a c] := Eq.trans rfl rfl
theorem pfill_n {cs : List PV} : pfill E cs [] = some cs := Eq.trans rfl rfl
theorem pfill_c {cs : List PV} {o n : Nat} {x : Opd} {r : List Part} : pfill E cs (⟨o, n, x⟩ :: r) = (pev E x).cl.bind fun m => if m.length = n ∧ o + n ≤ cs.length then pfill E (cs.take o ++ (m ++ cs.drop (o + n))) r else none := Eq.trans rfl rfl
theorem pbsl_0 : pbsl B 0 [] = some (.vs 2 0 [], B) := Eq.trans rfl rfl
theorem pcont_sn {es : Nat} : pcont es B .sn = some [] := Eq.trans rfl rfl
theorem pcont_vs {es w : Nat} {l : List PV} : pcont es B (.vs w es l) = some l := by simp [pcont]
theorem pcont_em {es : Nat} {es' : Nat} : pcont es B (.vs 2 es' []) = some [] := by simp [pcont]
theorem pbase_em {es es' : Nat} : pbase es B (.vs 2 es' []) = some (true, [], none) := by simp [pbase]
theorem pbase_sn {es : Nat} : pbase es B .sn = some (true, [], none) := Eq.trans rfl rfl
theorem pbase_vs {es : Nat} {l : List PV} : pbase es B (.vs 2 es l) = some (l.isEmpty, l, none) := by simp [pbase]
theorem plen_sn : plen B .sn = some (.it .i64 0) := Eq.trans rfl rfl
theorem plen_vs {w es : Nat} {l : List PV} : plen B (.vs w es l) = some (.it .i64 l.length) := Eq.trans rfl rfl
theorem plen_gp {es b lo n : Nat} : plen B (.gp es b lo n) = some (.it .i64 n) := Eq.trans rfl rfl
theorem plen_gr {b : Nat} : plen B (.gr b) = match B[b]? with | some (.gs _ _ l) => some (.it .i64 l.length) | some (.fz _ l) => some (.it .i64 l.length) | _ => none := Eq.trans rfl rfl
theorem prv_n : prv E B [] = some [] := Eq.trans rfl rfl
theorem prv_t {t : Nat} {r : List RRes} : prv E B (.t t :: r) = (prv E B r).map (E t :: ·) := Eq.trans rfl rfl
theorem prv_c {t n : Nat} {r : List RRes} : prv E B (.c t n :: r) = (pld n B (E t)).bind fun v => (prv E B r).map (v :: ·) := Eq.trans rfl rfl
theorem prv_c1 {t : Nat} {r : List RRes} : prv E B (.c1 t :: r) = (pld1 B (E t)).bind fun v => (prv E B r).map (v :: ·) := Eq.trans rfl rfl
theorem ptup_1 {v : PV} : ptup [v] = v := Eq.trans rfl rfl
theorem ptup_0 : ptup [] = .tu [] := Eq.trans rfl rfl
theorem ptup_2 {v u : PV} {l : List PV} : ptup (v :: u :: l) = .tu (v :: u :: l) := Eq.trans rfl rfl
theorem lv_n {t : Nat} : lv [] t = .dd := Eq.trans rfl rfl
theorem lv_c {t s : Nat} {v : PV} {r : List (Nat × PV)} : lv ((s, v) :: r) t = if t = s then v else lv r t := Eq.trans rfl rfl
theorem ends_n {K : Nat} {rs : List RRes} {B1 : List PB} {v : PV} : Ends K rs B1 v none E B = ∃ vs, prv E B rs = some vs ∧ Wv K B (ptup vs) B1 v := Eq.trans rfl rfl
end
end Go.AX
end
section
namespace Go.AX
open Go
section
variable {P : Program} {K n : Nat} {R : PEnd} {k : List It} {E : PE0} {B : List PB} {l : List ROper} {z : Zn} {d : Option Nat} {b : Bool} {o : ROp} {p : Prop} [Decidable p]
variable {c : Bool}
section
variable {l' : RL} {q : Nat} {g : Option (Nat × Bool)} {rk : List Nat} {ck : Bool} {rem : RL}
end
theorem YR_wk {l' : RL} {q : Nat} {rem : RL} {E' : PE0} {B' : List PB} (hw : Wk K E B E' B') (hy : YR P K R l' q rem k E' B') : YR P K R l' q rem k E B := by
 intro hl ok L0 H0 B0 Rx r1 r2 L H Ea fw hK hR hE hF
 obtain ⟨L', h1, h2, h3, h4, h5, h6, h7⟩ := hw L H Ea hK hR hE
 have f' : Fw K L H B L' H B' := ⟨⟨Nat.le_refl _, h5, fun _ _ => rfl⟩, h4, fun _ _ _ _ => rfl, fun X hX => (h6 X hX).imp id .inl, fun X hX => .inl (h7 X hX)⟩
 exact hy hl ok L0 H0 B0 Rx r1 r2 L' H Ea (fw.trans f') h1 h2 h3 hF
theorem RpL_set {L : Lk} {H : AH} : ∀ {l : List PV} {as : List AV} {j : Nat} {v : PV} {a : AV}, RpL L H l as → as[j]? = some a → Rp L H v a → RpL L H (l.set j v) as
 | [], as, j, v, a, h, _, _ => by simpa using h
 | x :: r, _, 0, v, a, ⟨a0, l', rfl, h2, h3⟩, ha, hv => by
  simp only [List.getElem?_cons_zero, Option.some.injEq] at ha; subst ha
  exact ⟨_, _, rfl, hv, h3⟩
 | x :: r, _, j + 1, v, a, ⟨a0, l', rfl, h2, h3⟩, ha, hv => by
  simp only [List.getElem?_cons_succ] at ha
  exact ⟨_, _, rfl, h2, RpL_set h3 ha hv⟩
end
def szIf {α : Type} (c : Prop) [Decidable c] (x : Option α) : Option α := if c then x else none
theorem szIf_t {α : Type} {c : Prop} [Decidable c] {x : Option α} (h : c) : szIf c x = x := if_pos h
section
variable {E : PE0} {B : List PB}
theorem papp_z {es bytes : Nat} {s : PV} {m : List PV} : papp es bytes B s m = (pbase es B s).bind fun p => szIf ((p.2.1.length + m.length) * bytes ≤ 140737488355328 ∧ 0 < es) (some (.gr B.length, pkill B p.2.2 ++ [.gs (p.1 || !m.isEmpty) es (p.2.1 ++ m)])) := Eq.trans rfl rfl
theorem pmks_z {bytes : Nat} {z : List PV} {k k' : IntKind} {l c : Int} : pmks B bytes z (.it k l) (.it k' c) = szIf ((0 ≤ l ∧ l ≤ c ∧ c ≤ 9223372036854775807 ∧ (bytes : Int) * c ≤ 140737488355328) ∧ PV.scaL z = true) (some (.gr B.length, B ++ [.gs true z.length (List.replicate l.toNat (elemOf z))])) := Eq.trans rfl rfl
theorem pia_grz {es b : Nat} {k : IntKind} {i : Int} : pia es B (.gr b) (.it k i) = (pblk B b).bind fun p => szIf (0 ≤ i ∧ i < p.2.length ∧ p.1 = es) (some (.pg es b i.toNat 0)) := Eq.trans rfl rfl
theorem pia_gpz {es es' b lo n : Nat} {k : IntKind} {i : Int} : pia es B (.gp es' b lo n) (.it k i) = (pblk B b).bind fun p => szIf (0 ≤ i ∧ i < n ∧ p.1 = es ∧ es' = es ∧ lo + n ≤ p.2.length) (some (.pg es b (lo + i.toNat) 0)) := Eq.trans rfl rfl
theorem piaa_z {n es : Nat} {x : PV} {k : IntKind} {i : Int} : piaa n es x (.it k i) = szIf (0 ≤ i ∧ i < n) (pfa (i.toNat * es) x) := by cases x <;> exact Eq.trans rfl rfl
theorem pix_z {n es : Nat} {ag : Bool} {l : List PV} {k : IntKind} {i : Int} : pix n es ag (.ag l) (.it k i) = szIf (0 ≤ i ∧ i < n) (papart l (i.toNat * es) es ag) := Eq.trans rfl rfl
theorem pbnd_n {d top : Nat} : pbnd E d top none = some d := Eq.trans rfl rfl
theorem pbnd_s {d top : Nat} {x : Opd} : pbnd E d top (some x) = match pev E x with | .it _ i => szIf (0 ≤ i ∧ i ≤ top) (some i.toNat) | _ => none := Eq.trans rfl rfl
theorem pslc_sn {es : Nat} {lo hi : Option Opd} : pslc es B E .sn lo hi none = (pbnd E 0 0 hi).bind fun h => (pbnd E 0 h lo).bind fun l => some .sn := Eq.trans rfl rfl
theorem pslc_vs {w es : Nat} {l : List PV} {lo hi : Option Opd} : pslc es B E (.vs w es l) lo hi none = (pbnd E l.length l.length hi).bind fun h => (pbnd E 0 h lo).bind fun k => some (.vs (if lo = none then min w 1 else if 2 ≤ w then 1 else 0) es ((l.take h).drop k)) := by simp [pslc]
theorem pslc_vsm {w es : Nat} {l : List PV} {lo : Option Opd} {hi m : Opd} : pslc es B E (.vs w es l) lo (some hi) (some m) = (pbnd E l.length l.length (some m)).bind fun m => (pbnd E l.length m (some hi)).bind fun h => (pbnd E 0 h lo).bind fun k => szIf (1 ≤ w ∨ 0 < l.length) (some (.vs (if h = m then 2 else 1) es ((l.take h).drop k))) := by simp [pslc, szIf]
theorem pslc_gr {es b : Nat} {lo hi : Option Opd} : pslc es B E (.gr b) lo hi none = (pblk B b).bind fun p => szIf (p.1 = es) ((pbnd E p.2.length p.2.length hi).bind fun h => (pbnd E 0 h lo).bind fun k => some (.gp es b k (h - k))) := Eq.trans rfl rfl
theorem pcont_gp {es es' b lo n : Nat} : pcont es B (.gp es' b lo n) = (pblk B b).bind fun p => szIf (es' = es ∧ p.1 = es ∧ lo + n ≤ p.2.length) (some ((p.2.drop lo).take n)) := Eq.trans rfl rfl
theorem pcont_gr {es b : Nat} : pcont es B (.gr b) = match B[b]? with | some (.gs _ es' l) => if es' = es then some l else none | some (.fz es' l) => if es' = es then some l else none | _ => none := Eq.trans rfl rfl
theorem pbase_gr {es b : Nat} : pbase es B (.gr b) = match B[b]? with | some (.gs w es' l) => if es' = es then some (w, l, some b) else none | _ => none := Eq.trans rfl rfl
theorem pset_0 {l : List PV} {i es : Nat} {m : List PV} {x : PV} : psetE l i 0 es es m x = szIf (x.cld = true ∧ i < l.length) (some (l.set i x)) := by simp [psetE, szIf]
theorem pset_n {l : List PV} {i o n es : Nat} {m : List PV} {x : PV} (h : ¬ (o = 0 ∧ n = es)) : psetE l i o n es m x = (l[i]?).bind fun e => e.cl.bind fun c => if c.length = es ∧ PV.scaL (c.take o ++ (m ++ c.drop (o + n))) = true then some (l.set i (elemOf (c.take o ++ (m ++ c.drop (o + n))))) else none := by rw [psetE, if_neg h]
theorem pcells_pg {es b i o : Nat} : pcells B (.pg es b i o) = (pblk B b).bind fun p => if p.1 = es then (p.2[i]?).bind fun e => e.cl.bind fun c => if c.length = es then some (c, o) else none else none := Eq.trans rfl rfl
theorem pia_vs' {es w : Nat} {l : List PV} {k : IntKind} {i : Int} (h0 : 0 ≤ i) (h1 : i < l.length) : pia es B (.vs w es l) (.it k i) = (l[i.toNat]?).bind fun e => e.cl.map fun c => .pe c 0 := by
 rw [pia_vs, if_pos ⟨h0, h1, rfl⟩]
def ga {α : Type} [Inhabited α] (l : List α) (n : Nat) : α := l.getD n default
theorem ga_some {α : Type} [Inhabited α] {l : List α} {n : Nat} (h : n < l.length) : l[n]? = some (ga l n) := by
 simp only [ga, List.getD_eq_getElem?_getD, List.getElem?_eq_getElem h, Option.getD_some]
theorem ga_map {α : Type} [Inhabited α] {l : List α} {f : α → PV} {n : Nat} (h : n < l.length) : (l.map f)[n]? = some (f (ga l n)) := by rw [List.getElem?_map, ga_some h]; rfl
variable {te : EqT} {cn : Bool} {k : IntKind} {a b : Int}
theorem veql : vbin .eql te cn (.it k a) (.it k b) = some (.bo (decide (a = b))) := by rw [vbin_eql]; rfl
theorem vneq : vbin .neq te cn (.it k a) (.it k b) = some (.bo (decide (¬ a = b))) := by
 rw [vbin_neq]
 by_cases h : a = b <;> simp [h]
theorem vgtr : vbin .gtr te cn (.it k a) (.it k b) = some (.bo (decide (b < a))) := by rw [vbin_gtr]
theorem vgeq : vbin .geq te cn (.it k a) (.it k b) = some (.bo (decide (b ≤ a))) := by rw [vbin_geq]
theorem sceqK_0d {a b : Int} : sceqK 0 (.it k a) (.it k b) = some (decide (a = b)) := by rw [sceqK_0]; rfl
theorem pun_notd {p : Prop} [Decidable p] : pun .not (.bo (decide p)) = some (.bo (decide (¬ p))) := by rw [pun_not, decide_not]
theorem pun_t : pun .not (.bo true) = some (.bo false) := Eq.trans rfl rfl
theorem pun_f : pun .not (.bo false) = some (.bo true) := Eq.trans rfl rfl
theorem Wv_res (dp : Nat) {u v : PV} (h : u.res B dp = some v) : Wv 0 B u [] v := Wv_cl dp h
theorem wrap_id {x : Int} (h : -9223372036854775808 ≤ x ∧ x ≤ 9223372036854775807) : IntKind.i64.wrap x = x := by rw [IntKind.wrap_i64]; omega
end
section
variable {P : Program} {K : Nat} {R : PEnd} {k : List It} {E : PE0} {B : List PB} {l : RL} {q : Nat} {d : Option Nat} {g : Option (Nat × Bool)} {rk : List Nat} {ck : Bool} {rem : RL}
end
end Go.AX
end
section
namespace Go.AX
open Go
mutual
def Ple : PV → PV → Prop
 | u, .dd => True
 | .sn, .vs _ _ l => l = []
 | .vs w es l, .vs w' es' l' => w' ≤ w ∧ es = es' ∧ l = l'
 | .ag l, .ag m => PleL l m
 | .tu l, .tu m => PleL l m
 | u, v => u = v
def PleL : List PV → List PV → Prop
 | [], m => m = []
 | u :: l, m => ∃ v m', m = v :: m' ∧ Ple u v ∧ PleL l m'
end
mutual
theorem Rc.le {F : Nat → Prop} {H : AH} : ∀ (u v : PV) {a : AV}, Ple u v → Rc F H u a → Rc F H v a := by
 intro u v a hl h
 unfold Ple at hl
 split at hl
 ·trivial
 ·subst hl; simp only [Rc] at h; subst h; exact Rc_snil
 ·obtain ⟨h1, rfl, rfl⟩ := hl
  exact Rc_w h h1
 ·rename_i l m
  obtain ⟨l', h1, h2⟩ := h
  exact ⟨l', h1, RcL.le l m hl h2⟩
 ·rename_i l m
  obtain ⟨l', h1, h2⟩ := h
  exact ⟨l', h1, RcL.le l m hl h2⟩
 ·subst hl; exact h
theorem RcL.le {F : Nat → Prop} {H : AH} : ∀ (l m : List PV) {as : List AV}, PleL l m → RcL F H l as → RcL F H m as
 | [], m, _, hl, h => by simp only [PleL] at hl; subst hl; exact h
 | u :: l, m, _, hl, ⟨a, l', h1, h2, h3⟩ => by
  simp only [PleL] at hl
  obtain ⟨v, m', rfl, h4, h5⟩ := hl
  exact ⟨a, l', h1, Rc.le u v h4 h2, RcL.le l m' h5 h3⟩
end
section
variable {K : Nat} {E : PE0} {B : List PB}
def rho (r : List Nat) (b : Nat) : Nat := r.getD b 0
def WkE (r : List Nat) (n : Nat) (E : PE0) : List (Nat × PV) → Prop
 | [] => True
 | (t, v) :: l => (E t = v.ren (rho r) ∧ v.bel n = true) ∧ WkE r n E l
def WkB (r : List Nat) (n : Nat) (B : List PB) : List PB → List Nat → Prop
 | [], [] => True
 | p :: ps, b :: bs => (B[b]? = some (p.ren (rho r)) ∧ p.bel n = true) ∧ WkB r n B ps bs
 | _, _ => False
theorem WkB_len {r : List Nat} {n : Nat} : ∀ {ps : List PB} {bs : List Nat}, WkB r n B ps bs → bs.length = ps.length
 | [], [], _ => rfl
 | p :: ps, b :: bs, h => by simp [WkB_len h.2]
 | [], _ :: _, h => h.elim
 | _ :: _, [], h => h.elim
theorem WkB_get {r : List Nat} {n : Nat} : ∀ {ps : List PB} {bs : List Nat} {i : Nat} {p : PB}, WkB r n B ps bs → ps[i]? = some p → ∃ b, bs[i]? = some b ∧ B[b]? = some (p.ren (rho r)) ∧ p.bel n = true
 | [], _, _, _, _, h => by simp at h
 | p :: ps, b :: bs, 0, q, h, hi => by
  simp only [List.getElem?_cons_zero, Option.some.injEq] at hi; subst hi
  exact ⟨b, rfl, h.1⟩
 | p :: ps, b :: bs, i + 1, q, h, hi => by
  simp only [List.getElem?_cons_succ] at hi ⊢
  exact WkB_get h.2 hi
 | _ :: _, [], _, _, h, _ => h.elim
structure Hid (p : Prop) : Prop where
 h : p
theorem wke_n {r : List Nat} {n : Nat} : WkE r n E [] = True := Eq.trans rfl rfl
theorem wke_c {r : List Nat} {n t : Nat} {v : PV} {l : List (Nat × PV)} : WkE r n E ((t, v) :: l) = ((E t = v.ren (rho r) ∧ v.bel n = true) ∧ WkE r n E l) := Eq.trans rfl rfl
theorem wkb_n {r : List Nat} {n : Nat} : WkB r n B [] [] = True := Eq.trans rfl rfl
theorem wkb_c {r : List Nat} {n b : Nat} {p : PB} {ps : List PB} {bs : List Nat} : WkB r n B (p :: ps) (b :: bs) = ((B[b]? = some (p.ren (rho r)) ∧ p.bel n = true) ∧ WkB r n B ps bs) := Eq.trans rfl rfl
theorem rho_0 {b : Nat} {r : List Nat} : rho (b :: r) 0 = b := Eq.trans rfl rfl
theorem rho_s {b n : Nat} {r : List Nat} : rho (b :: r) (n + 1) = rho r n := Eq.trans rfl rfl
end
end Go.AX
end
section
namespace Go.AX
open Go
theorem yw0 : type_of% (And.intro @Z_nil (And.intro @Z_blk (And.intro @Z_lp (And.intro @Z_onil (And.intro @Z_o (And.intro @Z_g (And.intro @Z_skip (And.intro @Z_reg (And.intro @Z_regd (And.intro @Z_seq (And.intro @Z_cond (And.intro @Z_block (And.intro @Z_loop (And.intro @Z_exit (And.intro @Z_ret (And.intro @ZO_v (And.intro @ZO_c (And.intro @ZO_cv (And.intro @ZO_p (And.intro @ZG_tt (And.intro @ZG_ff (And.intro @ZG_tf (And.intro @ZG_ft (And.intro @ZG_u (And.intro @ZX_some (And.intro @ZV_some (And.intro @ZB_t (And.intro @ZB_f (And.intro @ZP_fc (@itx_hit)))))))))))))))))))))))))))))) := And.intro @Z_nil (And.intro @Z_blk (And.intro @Z_lp (And.intro @Z_onil (And.intro @Z_o (And.intro @Z_g (And.intro @Z_skip (And.intro @Z_reg (And.intro @Z_regd (And.intro @Z_seq (And.intro @Z_cond (And.intro @Z_block (And.intro @Z_loop (And.intro @Z_exit (And.intro @Z_ret (And.intro @ZO_v (And.intro @ZO_c (And.intro @ZO_cv (And.intro @ZO_p (And.intro @ZG_tt (And.intro @ZG_ff (And.intro @ZG_tf (And.intro @ZG_ft (And.intro @ZG_u (And.intro @ZX_some (And.intro @ZV_some (And.intro @ZB_t (And.intro @ZB_f (And.intro @ZP_fc (@itx_hit)))))))))))))))))))))))))))))
theorem yw1 : type_of% (And.intro @itx_blk (And.intro @itx_c (And.intro @itx_o (And.intro @itx_lp (And.intro @ZR_nil (And.intro @ZR_o (And.intro @ZR_g (And.intro @ZRO_v (And.intro @ZRO_c (And.intro @ZRO_cv (And.intro @ZRG_tt (And.intro @ZRG_ff (And.intro @ZRG_tf (And.intro @ZRG_ft (And.intro @ZRG_u (And.intro @ZRV_t (And.intro @ZRV_n (And.intro @ZRV_f (And.intro @pop_mv (And.intro @pop_pick (And.intro @pop_alloc (And.intro @pop_box (And.intro @pop_bld (And.intro @pop_bsl (And.intro @pop_ld (And.intro @pop_ld1 (And.intro @pop_sto (And.intro @pop_nilc (And.intro @pop_bin (And.intro @pop_un (@pop_cvi))))))))))))))))))))))))))))))) := And.intro @itx_blk (And.intro @itx_c (And.intro @itx_o (And.intro @itx_lp (And.intro @ZR_nil (And.intro @ZR_o (And.intro @ZR_g (And.intro @ZRO_v (And.intro @ZRO_c (And.intro @ZRO_cv (And.intro @ZRG_tt (And.intro @ZRG_ff (And.intro @ZRG_tf (And.intro @ZRG_ft (And.intro @ZRG_u (And.intro @ZRV_t (And.intro @ZRV_n (And.intro @ZRV_f (And.intro @pop_mv (And.intro @pop_pick (And.intro @pop_alloc (And.intro @pop_box (And.intro @pop_bld (And.intro @pop_bsl (And.intro @pop_ld (And.intro @pop_ld1 (And.intro @pop_sto (And.intro @pop_nilc (And.intro @pop_bin (And.intro @pop_un (@pop_cvi))))))))))))))))))))))))))))))
theorem yw2 : type_of% (And.intro @pop_mkif (And.intro @pop_mkfn (And.intro @pop_mks (And.intro @pop_slc (And.intro @pop_fa (And.intro @pop_fld (And.intro @pop_ia (And.intro @pop_iaa (And.intro @pop_ix (And.intro @pop_ext (And.intro @pop_len1 (And.intro @pop_len0 (And.intro @pop_lenk (And.intro @pop_mm (And.intro @pop_app (And.intro @tch_sto (And.intro @tch_app (And.intro @pev_t (And.intro @pev_k (And.intro @pev_f (And.intro @st_ap' (And.intro @put_s (And.intro @put_n (And.intro @penv_0 (And.intro @penv_s (And.intro @penv_n (And.intro @ofAV_bo (And.intro @ofAV_it (And.intro @ofAV_st (@ofAV_np)))))))))))))))))))))))))))))) := And.intro @pop_mkif (And.intro @pop_mkfn (And.intro @pop_mks (And.intro @pop_slc (And.intro @pop_fa (And.intro @pop_fld (And.intro @pop_ia (And.intro @pop_iaa (And.intro @pop_ix (And.intro @pop_ext (And.intro @pop_len1 (And.intro @pop_len0 (And.intro @pop_lenk (And.intro @pop_mm (And.intro @pop_app (And.intro @tch_sto (And.intro @tch_app (And.intro @pev_t (And.intro @pev_k (And.intro @pev_f (And.intro @st_ap' (And.intro @put_s (And.intro @put_n (And.intro @penv_0 (And.intro @penv_s (And.intro @penv_n (And.intro @ofAV_bo (And.intro @ofAV_it (And.intro @ofAV_st (@ofAV_np)))))))))))))))))))))))))))))
theorem yw3 : type_of% (And.intro @ofAV_nf (And.intro @ofAV_ni (And.intro @ofAV_sn (And.intro @ofAV_ag (And.intro @pcells_pt (And.intro @pcells_pe (And.intro @pbin_it (And.intro @pbin_bo (And.intro @pbin_ag (And.intro @vbin_age (And.intro @vbin_agn (And.intro @sceqK_0d (And.intro @sceqK_1 (And.intro @pun_notd (And.intro @pun_t (And.intro @pun_f (And.intro @pun_neg (And.intro @ppick_t (And.intro @ppick_f (And.intro @pcvi_it (And.intro @pfa_pt (And.intro @pfa_pe (And.intro @pfa_pg (And.intro @pia_vs' (And.intro @ga_map (And.intro @pia_grz (And.intro @pia_gpz (And.intro @piaa_z (And.intro @pix_z (@pbnd_n)))))))))))))))))))))))))))))) := And.intro @ofAV_nf (And.intro @ofAV_ni (And.intro @ofAV_sn (And.intro @ofAV_ag (And.intro @pcells_pt (And.intro @pcells_pe (And.intro @pbin_it (And.intro @pbin_bo (And.intro @pbin_ag (And.intro @vbin_age (And.intro @vbin_agn (And.intro @sceqK_0d (And.intro @sceqK_1 (And.intro @pun_notd (And.intro @pun_t (And.intro @pun_f (And.intro @pun_neg (And.intro @ppick_t (And.intro @ppick_f (And.intro @pcvi_it (And.intro @pfa_pt (And.intro @pfa_pe (And.intro @pfa_pg (And.intro @pia_vs' (And.intro @ga_map (And.intro @pia_grz (And.intro @pia_gpz (And.intro @piaa_z (And.intro @pix_z (@pbnd_n)))))))))))))))))))))))))))))
theorem yw4 : type_of% (And.intro @pbnd_s (And.intro @pslc_sn (And.intro @pslc_vs (And.intro @pslc_vsm (And.intro @pslc_gr (And.intro @pcont_gp (And.intro @pcont_gr (And.intro @pbase_gr (And.intro @pset_0 (And.intro @pset_n (And.intro @pcells_pg (And.intro @szIf_t (And.intro @cl_ag (And.intro @cl_it (And.intro @cl_bo (And.intro @cl_vs (And.intro @cl_gr (And.intro @cl_gp (And.intro @cl_sn (And.intro @cl_np (And.intro @cl_nf (And.intro @cl_ni (And.intro @cl_pt (And.intro @cl_pe (And.intro @cl_fn (And.intro @pfill_n (And.intro @pfill_c (And.intro @pbsl_0 (And.intro @pcont_sn (@pcont_vs)))))))))))))))))))))))))))))) := And.intro @pbnd_s (And.intro @pslc_sn (And.intro @pslc_vs (And.intro @pslc_vsm (And.intro @pslc_gr (And.intro @pcont_gp (And.intro @pcont_gr (And.intro @pbase_gr (And.intro @pset_0 (And.intro @pset_n (And.intro @pcells_pg (And.intro @szIf_t (And.intro @cl_ag (And.intro @cl_it (And.intro @cl_bo (And.intro @cl_vs (And.intro @cl_gr (And.intro @cl_gp (And.intro @cl_sn (And.intro @cl_np (And.intro @cl_nf (And.intro @cl_ni (And.intro @cl_pt (And.intro @cl_pe (And.intro @cl_fn (And.intro @pfill_n (And.intro @pfill_c (And.intro @pbsl_0 (And.intro @pcont_sn (@pcont_vs)))))))))))))))))))))))))))))
theorem yw5 : type_of% (And.intro @pcont_em (And.intro @pbase_em (And.intro @pbase_sn (And.intro @pbase_vs (And.intro @plen_sn (And.intro @plen_vs (And.intro @plen_gp (And.intro @plen_gr (And.intro @prv_n (And.intro @prv_t (And.intro @prv_c (And.intro @prv_c1 (And.intro @ptup_1 (And.intro @ptup_0 (And.intro @ptup_2 (And.intro @lv_n (And.intro @lv_c (And.intro @ends_n (And.intro @pmks_z (And.intro @papp_z (And.intro @vbin_add (And.intro @vbin_sub (And.intro @vbin_mul (And.intro @vbin_quo (And.intro @vbin_rem (And.intro @vbin_and (And.intro @vbin_or (And.intro @vbin_xor (And.intro @vbin_andNot (@veql)))))))))))))))))))))))))))))) := And.intro @pcont_em (And.intro @pbase_em (And.intro @pbase_sn (And.intro @pbase_vs (And.intro @plen_sn (And.intro @plen_vs (And.intro @plen_gp (And.intro @plen_gr (And.intro @prv_n (And.intro @prv_t (And.intro @prv_c (And.intro @prv_c1 (And.intro @ptup_1 (And.intro @ptup_0 (And.intro @ptup_2 (And.intro @lv_n (And.intro @lv_c (And.intro @ends_n (And.intro @pmks_z (And.intro @papp_z (And.intro @vbin_add (And.intro @vbin_sub (And.intro @vbin_mul (And.intro @vbin_quo (And.intro @vbin_rem (And.intro @vbin_and (And.intro @vbin_or (And.intro @vbin_xor (And.intro @vbin_andNot (@veql)))))))))))))))))))))))))))))
theorem yw6 : type_of% (And.intro @vneq (And.intro @vbin_lss (And.intro @vbin_leq (And.intro @vgtr (And.intro @vgeq (And.intro @vbin_shl (And.intro @vbin_shr (And.intro @vbin_beq (And.intro @vbin_bne (And.intro @Wv_res (And.intro @wrap_id (And.intro @List.all_cons.{0} (And.intro @List.all_nil.{0} (And.intro @Bool.and_self (And.intro @Bool.and_true (And.intro @Bool.true_and (And.intro @List.isEmpty_cons.{0} (And.intro @List.isEmpty_nil.{0} (And.intro @Bool.or_true (And.intro @Bool.true_or (And.intro (@Option.map_some.{0, 0}) (And.intro (@Option.map_none.{0, 0}) (And.intro (@Option.bind_some.{0, 0}) (And.intro (@Option.bind_none.{0, 0}) (And.intro @Bool.not_true (And.intro @Bool.not_false (And.intro @Nat.zero_add (And.intro @Nat.add_zero (And.intro @List.length_cons.{0} (@List.length_nil.{0})))))))))))))))))))))))))))))) := And.intro @vneq (And.intro @vbin_lss (And.intro @vbin_leq (And.intro @vgtr (And.intro @vgeq (And.intro @vbin_shl (And.intro @vbin_shr (And.intro @vbin_beq (And.intro @vbin_bne (And.intro @Wv_res (And.intro @wrap_id (And.intro @List.all_cons.{0} (And.intro @List.all_nil.{0} (And.intro @Bool.and_self (And.intro @Bool.and_true (And.intro @Bool.true_and (And.intro @List.isEmpty_cons.{0} (And.intro @List.isEmpty_nil.{0} (And.intro @Bool.or_true (And.intro @Bool.true_or (And.intro (@Option.map_some.{0, 0}) (And.intro (@Option.map_none.{0, 0}) (And.intro (@Option.bind_some.{0, 0}) (And.intro (@Option.bind_none.{0, 0}) (And.intro @Bool.not_true (And.intro @Bool.not_false (And.intro @Nat.zero_add (And.intro @Nat.add_zero (And.intro @List.length_cons.{0} (@List.length_nil.{0})))))))))))))))))))))))))))))
theorem yw7 : type_of% (And.intro @List.length_append.{0} (And.intro @List.cons_append.{0} (And.intro @List.nil_append.{0} (And.intro @List.append_nil.{0} (And.intro @List.getElem?_cons_zero.{0} (And.intro @List.getElem?_cons_succ.{0} (And.intro (@List.map_cons.{0, 0}) (And.intro (@List.map_nil.{0, 0}) (And.intro @List.take_succ_cons.{0} (And.intro @List.take_zero.{0} (And.intro @List.take_nil.{0} (And.intro @List.drop_succ_cons.{0} (And.intro @List.drop_zero.{0} (And.intro @List.drop_nil.{0} (And.intro @List.set_cons_zero.{0} (And.intro @List.set_cons_succ.{0} (And.intro (@List.length_map.{0, 0}) (And.intro @Int.toNat_natCast (And.intro @List.append_assoc.{0} (And.intro @Option.isSome_some.{0} (And.intro @Option.isSome_none.{0} (And.intro @Option.getD_some.{0} (And.intro @Option.getD_none.{0} (@Bool.false_eq_true)))))))))))))))))))))))) := And.intro @List.length_append.{0} (And.intro @List.cons_append.{0} (And.intro @List.nil_append.{0} (And.intro @List.append_nil.{0} (And.intro @List.getElem?_cons_zero.{0} (And.intro @List.getElem?_cons_succ.{0} (And.intro (@List.map_cons.{0, 0}) (And.intro (@List.map_nil.{0, 0}) (And.intro @List.take_succ_cons.{0} (And.intro @List.take_zero.{0} (And.intro @List.take_nil.{0} (And.intro @List.drop_succ_cons.{0} (And.intro @List.drop_zero.{0} (And.intro @List.drop_nil.{0} (And.intro @List.set_cons_zero.{0} (And.intro @List.set_cons_succ.{0} (And.intro (@List.length_map.{0, 0}) (And.intro @Int.toNat_natCast (And.intro @List.append_assoc.{0} (And.intro @Option.isSome_some.{0} (And.intro @Option.isSome_none.{0} (And.intro @Option.getD_some.{0} (And.intro @Option.getD_none.{0} (@Bool.false_eq_true)))))))))))))))))))))))
end Go.AX
end
section
set_option maxRecDepth 4000
namespace Go.AX
open Go
section
variable {P : Program} {K : Nat} {R : PEnd} {k : List It} {E : PE0} {B : List PB} {l : List ROper}
theorem Z_0 : Z P K R 0 k E B = Y P K R k E B := Eq.trans rfl rfl
theorem Y_isnil {d : Option Nat} {cn : Bool} {x : Opd} {w es : Nat} {m : List PV} (hx : pev E x = .vs w es m) (h1 : m = [] → Y P K R (.o l :: k) (E.put d (.bo true)) B) (h2 : Y P K R (.o l :: k) (E.put d (.bo false)) B) :
  Y P K R (.o (⟨d, none, .v (.bin .eql .sl cn x (.k .sn))⟩ :: l) :: k) E B := by
 intro L0 H0 B0 Rx r1 r2 L H Ea fw hK hR hE
 have hr := Rp_ev hE x
 rw [hx] at hr
 obtain ⟨⟨cs, g1, g2, g3⟩, _⟩ := hr
 rw [X_ov]
 generalize hn : m.length = n at g1
 generalize hev : ev Ea x = a at *
 cases g1 with
 | sn =>
  have hm : m = [] := List.eq_nil_of_length_eq_zero hn
  refine ⟨.bo true, H, ?_, h1 hm L0 H0 B0 Rx r1 r2 L H _ fw hK hR (ER_put hE rfl)⟩
  simp only [vop, hev]
  rfl
 | sl =>
  refine ⟨.bo false, H, ?_, h2 L0 H0 B0 Rx r1 r2 L H _ fw hK hR (ER_put hE rfl)⟩
  simp only [vop, hev]
  rfl
 | sg =>
  refine ⟨.bo false, H, ?_, h2 L0 H0 B0 Rx r1 r2 L H _ fw hK hR (ER_put hE rfl)⟩
  simp only [vop, hev]
  rfl
theorem Wv_nil {es : Nat} : Wv 0 B .sn [.gs true es []] (.gr 0) := by
 intro L H a hK hR hu
 simp only [Rp] at hu; subst hu
 refine ⟨⟨1, fun _ => .sn, L.F⟩, Nat.zero_le _, ⟨rfl, hR.fl, hR.wf, fun b p hb => ?_, fun b b' p p' X hb hb' ho ho' hX => by cases hX⟩, ⟨Nat.lt_succ_self _, rfl, rfl⟩, fun b hb => by omega, fun X h => h, fun X h => .inl h, fun X ⟨b, p, h1, h2, h3, h4⟩ => by cases h3⟩
 cases b with
 | zero =>
  simp only [List.getElem?_cons_zero, Option.some.injEq] at hb; subst hb
  exact ⟨.inl ⟨Rc_snil, fun _ => rfl⟩, rfl⟩
 | succ b => simp at hb
theorem Wv_l (r : List Nat) {u v : PV} {B1 : List PB} (hn : r.Nodup) (hB : WkB r B1.length B B1 r) (hu : u = v.ren (rho r)) (hv : v.bel B1.length = true) : Wv 0 B u B1 v := by
 have hlen := WkB_len hB
 refine Wv_ren (rho r) (Nat.zero_le _) (fun b hb => by omega) (fun b c hb hc h => ?_) (fun b p hp => ?_) hu hv
 ·have h1 : r.getD b 0 = r.getD c 0 := h
  rw [List.getD_eq_getElem?_getD, List.getD_eq_getElem?_getD, List.getElem?_eq_getElem (by omega), List.getElem?_eq_getElem (by omega)] at h1
  simp only [Option.getD_some] at h1
  exact (List.getElem_inj hn).1 h1
 ·obtain ⟨c, h1, h2⟩ := WkB_get hB hp
  have : rho r b = c := by simp only [rho, List.getD_eq_getElem?_getD, h1, Option.getD_some]
  rw [this]; exact h2
end
section
variable {P : Program} {f : FuncId}
def rfClone (es bytes : Nat) : RFun := ⟨8, [.t 2], .seq (.reg [⟨some 2, none, .v (.mv (.k .sn))⟩]) (.seq (.seq (.reg [⟨some 3, none, .v (.mv (.t 0))⟩, ⟨some 4, none, .v (.bin .eql .sl true (.t 3) (.k .sn))⟩]) (.cond (.t 4) (.seq (.reg [⟨some 2, none, .v (.mv (.k .sn))⟩]) .ret) .skip)) (.seq (.reg [⟨some 5, none, .v (.bsl 0 [] [])⟩, ⟨some 6, none, .v (.mv (.t 0))⟩, ⟨some 7, none, .v (.app es bytes (.t 5) (.t 6))⟩, ⟨some 2, none, .v (.mv (.t 7))⟩]) .ret))⟩
theorem clone_gen {es bytes : Nat} (hf : resF P f = some (rfClone es bytes)) (w : Nat) (l : List PV) (hes : 0 < es) (hb : l.length * bytes ≤ 140737488355328) : Pu P f [.vs w es l] [.gs true es l] (.gr 0) := by
 refine pu_of_Y hf (Nat.le_of_ble_eq_true rfl) (Y_go 8 ?_)
 simp only [rfClone]
 simp only [yw0, yw1, yw2, yw3, yw4, yw5, yw6, yw7, tch, pld, pld1, psub, alleq, tvL, tv, Int.reduceToNat, PV.cld, PV.cldL, PV.sca, PV.scaL, elemOf, chunk, pbsl, pext, pfld, papart, psto, pblk, pkill, ↓reduceIte, Nat.reduceEqDiff, Nat.reduceAdd, Nat.reduceSub, Nat.reduceMul, Nat.reduceDiv, Nat.reduceLeDiff, Int.reduceEq, Int.reduceLT, Int.reduceLE, Int.reduceNeg, decide_true, decide_false, reduceCtorEq, and_self, true_and, and_true, Option.some.injEq, exists_eq_left', Prod.mk.injEq, PV.res, PV.resL, offB, PB.froz, not_false_eq_true, not_true_eq_false, ite_true, ite_false, PV.ren, PV.renL, PB.ren, gval, beq_self_eq_true, eq_self, ptch, Z_0]
 refine Y_isnil (by simp only [yw0, yw1, yw2, yw3, yw4, yw5, yw6, yw7, tch, pld, pld1, psub, alleq, tvL, tv, Int.reduceToNat, PV.cld, PV.cldL, PV.sca, PV.scaL, elemOf, chunk, pbsl, pext, pfld, papart, psto, pblk, pkill, ↓reduceIte, Nat.reduceEqDiff, Nat.reduceAdd, Nat.reduceSub, Nat.reduceMul, Nat.reduceDiv, Nat.reduceLeDiff, Int.reduceEq, Int.reduceLT, Int.reduceLE, Int.reduceNeg, decide_true, decide_false, reduceCtorEq, and_self, true_and, and_true, Option.some.injEq, exists_eq_left', Prod.mk.injEq, PV.res, PV.resL, offB, PB.froz, not_false_eq_true, not_true_eq_false, ite_true, ite_false, PV.ren, PV.renL, PB.ren, gval, beq_self_eq_true, eq_self, ptch]; rfl) (fun hl => Y_go 2000 ?_) (Y_go 2000 ?_)
 ·subst hl
  simp only [yw0, yw1, yw2, yw3, yw4, yw5, yw6, yw7, tch, pld, pld1, psub, alleq, tvL, tv, Int.reduceToNat, PV.cld, PV.cldL, PV.sca, PV.scaL, elemOf, chunk, pbsl, pext, pfld, papart, psto, pblk, pkill, ↓reduceIte, Nat.reduceEqDiff, Nat.reduceAdd, Nat.reduceSub, Nat.reduceMul, Nat.reduceDiv, Nat.reduceLeDiff, Int.reduceEq, Int.reduceLT, Int.reduceLE, Int.reduceNeg, decide_true, decide_false, reduceCtorEq, and_self, true_and, and_true, Option.some.injEq, exists_eq_left', Prod.mk.injEq, PV.res, PV.resL, offB, PB.froz, not_false_eq_true, not_true_eq_false, ite_true, ite_false, PV.ren, PV.renL, PB.ren, gval, beq_self_eq_true, eq_self, ptch]
  exact Wv_nil
 ·simp only [yw0, yw1, yw2, yw3, yw4, yw5, yw6, yw7, tch, pld, pld1, psub, alleq, tvL, tv, Int.reduceToNat, PV.cld, PV.cldL, PV.sca, PV.scaL, elemOf, chunk, pbsl, pext, pfld, papart, psto, pblk, pkill, ↓reduceIte, Nat.reduceEqDiff, Nat.reduceAdd, Nat.reduceSub, Nat.reduceMul, Nat.reduceDiv, Nat.reduceLeDiff, Int.reduceEq, Int.reduceLT, Int.reduceLE, Int.reduceNeg, decide_true, decide_false, reduceCtorEq, and_self, true_and, and_true, Option.some.injEq, exists_eq_left', Prod.mk.injEq, PV.res, PV.resL, offB, PB.froz, not_false_eq_true, not_true_eq_false, ite_true, ite_false, PV.ren, PV.renL, PB.ren, gval, beq_self_eq_true, eq_self, ptch]
  rw [szIf_t ⟨hb, hes⟩]
  simp only [yw0, yw1, yw2, yw3, yw4, yw5, yw6, yw7, tch, pld, pld1, psub, alleq, tvL, tv, Int.reduceToNat, PV.cld, PV.cldL, PV.sca, PV.scaL, elemOf, chunk, pbsl, pext, pfld, papart, psto, pblk, pkill, ↓reduceIte, Nat.reduceEqDiff, Nat.reduceAdd, Nat.reduceSub, Nat.reduceMul, Nat.reduceDiv, Nat.reduceLeDiff, Int.reduceEq, Int.reduceLT, Int.reduceLE, Int.reduceNeg, decide_true, decide_false, reduceCtorEq, and_self, true_and, and_true, Option.some.injEq, exists_eq_left', Prod.mk.injEq, PV.res, PV.resL, offB, PB.froz, not_false_eq_true, not_true_eq_false, ite_true, ite_false, PV.ren, PV.renL, PB.ren, gval, beq_self_eq_true, eq_self, ptch]
  exact Wv_l [0] (by decide) (by simp only [wke_n, wke_c, wkb_n, wkb_c, rho_0, rho_s, PV.ren, PV.renL, PV.bel, PV.belL, PB.ren, PB.bel, Bool.and_self, Bool.and_true, Bool.true_and, yw0, yw1, yw2, yw3, yw4, yw5, yw6, yw7, tch, pld, pld1, psub, alleq, tvL, tv, Int.reduceToNat, PV.cld, PV.cldL, PV.sca, PV.scaL, elemOf, chunk, pbsl, pext, pfld, papart, psto, pblk, pkill, ↓reduceIte, Nat.reduceEqDiff, Nat.reduceAdd, Nat.reduceSub, Nat.reduceMul, Nat.reduceDiv, Nat.reduceLeDiff, Int.reduceEq, Int.reduceLT, Int.reduceLE, Int.reduceNeg, decide_true, decide_false, reduceCtorEq, and_self, true_and, and_true, Option.some.injEq, exists_eq_left', Prod.mk.injEq, PV.res, PV.resL, offB, PB.froz, not_false_eq_true, not_true_eq_false, ite_true, ite_false, PV.ren, PV.renL, PB.ren, gval, beq_self_eq_true, eq_self, ptch]) rfl rfl
def rfIndexFunc (es : Nat) (ag : Bool) : RFun := ⟨19, [.t 4], .seq (.reg [⟨some 4, none, .v (.mv (.k (.it .i64 0)))⟩]) (.seq (.seq (.reg [⟨some 6, none, .v (.mv (.t 0))⟩, ⟨some 7, none, .v (.len 1 (.t 6))⟩, ⟨some 8, none, .v (.mv (.k (.it .i64 0)))⟩]) (.block 0 (.loop (.seq (.reg [⟨some 9, none, .v (.bin .lss .no false (.t 8) (.t 7))⟩]) (.seq (.cond (.t 9) .skip (.exit 0)) (.seq (.block 1 (.seq (.reg [⟨some 10, none, .v (.mv (.t 8))⟩, ⟨some 5, none, .v (.mv (.t 10))⟩]) (.seq (.reg [⟨some 11, none, .v (.mv (.t 1))⟩, ⟨some 12, none, .v (.mv (.t 0))⟩, ⟨some 13, none, .v (.mv (.t 5))⟩, ⟨some 14, none, .v (.ia es (.t 12) (.t 13))⟩, ⟨some 15, none, .v (if ag then .ld es (.t 14) else .ld1 (.t 14))⟩, ⟨some 16, none, .calv (.t 11) [.t 15]⟩]) (.cond (.t 16) (.seq (.reg [⟨some 17, none, .v (.mv (.t 5))⟩, ⟨some 4, none, .v (.mv (.t 17))⟩]) .ret) .skip)))) (.reg [⟨some 18, none, .v (.bin .add .no true (.t 8) (.k (.it .i64 1)))⟩, ⟨some 8, none, .v (.mv (.t 18))⟩]))))))) (.seq (.reg [⟨some 4, none, .v (.mv (.k (.it .i64 (-1))))⟩]) .ret))⟩
def findI {α : Type} (p : α → Bool) : List α → Nat → Int
 | [], _ => -1
 | x :: r, i => if p x = true then i else findI p r (i + 1)
def rfContainsFunc (g : FuncId) : RFun := ⟨9, [.t 4], .seq (.reg [⟨some 4, none, .v (.mv (.k (.bo false)))⟩]) (.seq (.reg [⟨some 5, none, .v (.mv (.t 0))⟩, ⟨some 6, none, .v (.mv (.t 1))⟩, ⟨some 7, none, .call g [.t 5, .t 6]⟩, ⟨some 8, none, .v (.bin .geq .no true (.t 7) (.k (.it .i64 0)))⟩, ⟨some 4, none, .v (.mv (.t 8))⟩]) .ret)⟩
end
end Go.AX
end
section
namespace Go.AX
open Go Go.ChangeShapes Go.WideShapes Go.ChangeAt Go.RowKit
inductive CT where
 | b
 | i (k : IntKind)
 | sl (es : List CT)
mutual
def hasC : CT → PV → Prop
 | .b, v => ∃ x, v = .bo x
 | .i k, v => ∃ n, v = .it k n ∧ (Lit.int k n).wf = true
 | .sl es, v => ∃ l, v = .vs 1 es.length l ∧ l.length ≤ maxLen ∧ ∀ x ∈ l, ∃ cs, x = elemOf cs ∧ hasL es cs
def hasL : List CT → List PV → Prop
 | [], l => l = []
 | c :: r, l => ∃ v l', l = v :: l' ∧ hasC c v ∧ hasL r l'
end
theorem hasL_len : ∀ {ts : List CT} {l : List PV}, hasL ts l → l.length = ts.length
 | [], l, h => by simp only [hasL] at h; subst h; rfl
 | c :: r, l, h => by
  simp only [hasL] at h
  obtain ⟨v, l', rfl, _, h⟩ := h
  simp [hasL_len h]
theorem hasL_app : ∀ {ts us : List CT} {l m : List PV}, hasL ts l → hasL us m → hasL (ts ++ us) (l ++ m)
 | [], us, l, m, h, h' => by simp only [hasL] at h; subst h; exact h'
 | c :: r, us, l, m, h, h' => by
  simp only [hasL] at h
  obtain ⟨v, l', rfl, h0, h⟩ := h
  simp only [List.cons_append, hasL]
  exact ⟨v, _, rfl, h0, hasL_app h h'⟩
theorem hasL_split : ∀ {ts us : List CT} {l : List PV}, hasL (ts ++ us) l → hasL ts (l.take ts.length) ∧ hasL us (l.drop ts.length)
 | [], us, l, h => by simpa [hasL] using h
 | c :: r, us, l, h => by
  simp only [List.cons_append, hasL] at h
  obtain ⟨v, l', rfl, h0, h⟩ := h
  obtain ⟨h1, h2⟩ := hasL_split h
  simp only [List.length_cons, List.take_succ_cons, List.drop_succ_cons, hasL]
  exact ⟨⟨v, _, rfl, h0, h1⟩, h2⟩
theorem hasC_sca : ∀ {c : CT} {v : PV}, hasC c v → v.sca = true
 | .b, v, h => by simp only [hasC] at h; obtain ⟨x, rfl⟩ := h; rfl
 | .i k, v, h => by simp only [hasC] at h; obtain ⟨x, rfl, _⟩ := h; rfl
 | .sl es, v, h => by simp only [hasC] at h; obtain ⟨l, rfl, _⟩ := h; rfl
theorem hasL_sca : ∀ {ts : List CT} {l : List PV}, hasL ts l → PV.scaL l = true
 | [], l, h => by simp only [hasL] at h; subst h; rfl
 | c :: r, l, h => by
  simp only [hasL] at h
  obtain ⟨v, l', rfl, h0, h⟩ := h
  have := hasL_sca h
  simp only [PV.scaL, List.all_cons, Bool.and_eq_true] at this ⊢
  exact ⟨hasC_sca h0, this⟩
theorem hasL_chunk {es : List CT} : ∀ {n : Nat} {l : List PV}, hasL (List.replicate n es).flatten l → ∀ x ∈ chunk n es.length l, ∃ cs, x = elemOf cs ∧ hasL es cs
 | 0, l, h, x, hx => by simp [chunk] at hx
 | n + 1, l, h, x, hx => by
  rw [List.replicate_succ, List.flatten_cons] at h
  obtain ⟨h1, h2⟩ := hasL_split h
  simp only [chunk, List.mem_cons] at hx
  rcases hx with rfl | hx
  ·exact ⟨_, rfl, h1⟩
  ·exact hasL_chunk h2 x hx
structure OpAt (W : World) (s : Bool) (cs : List Value) (pvs : List PV) (full rows : List (Addr × List AV)) (avs : List AV) : Prop where
 at_ : ∀ r ∈ rows, ∀ (i : Nat) v, r.2[i]? = some v → W.cell? (r.1.add i) = some (v.con (injOf full)) ∧ v.ok (· < full.length) ∧ v.sc = true
 cs : cs = AV.conL (injOf full) avs
 ok : AV.okL (· < full.length) avs
 sc : s = true → AV.scL avs = true
 rc : RcL (· < full.length) (AH.of full) pvs avs
def Opn (W : World) (s : Bool) (cs : List Value) (pvs : List PV) : Prop :=
 ∃ (k : Nat) (rows : Nat → List (Addr × List AV)) (avs : Nat → List AV), (∀ b, (rows b).length = k) ∧ ∀ pre post, OpAt W s cs pvs (pre ++ (rows pre.length ++ post)) (rows pre.length) (avs pre.length)
section
variable {W : World} {s : Bool}
theorem Opn.nil : Opn W s [] [] := ⟨0, fun _ => [], fun _ => [], fun _ => rfl, fun pre post => ⟨fun r h => by simp at h, rfl, trivial, fun _ => rfl, rfl⟩⟩
theorem Opn.app {c d : List Value} {p q : List PV} (h : Opn W s c p) (h' : Opn W s d q) : Opn W s (c ++ d) (p ++ q) := by
 obtain ⟨k, r, a, hk, h⟩ := h
 obtain ⟨k', r', a', hk', h'⟩ := h'
 refine ⟨k + k', fun b => r b ++ r' (b + k), fun b => a b ++ a' (b + k), fun b => by simp [hk, hk'], fun pre post => ?_⟩
 have e1 := h pre (r' (pre.length + k) ++ post)
 have e2 := h' (pre ++ r pre.length) post
 have hl : (pre ++ r pre.length).length = pre.length + k := by simp [hk]
 rw [hl] at e2
 have ef : pre ++ r pre.length ++ (r' (pre.length + k) ++ post) = pre ++ (r pre.length ++ r' (pre.length + k) ++ post) := by simp
 have ef' : pre ++ (r pre.length ++ (r' (pre.length + k) ++ post)) = pre ++ (r pre.length ++ r' (pre.length + k) ++ post) := by simp
 rw [ef] at e2
 rw [ef'] at e1
 refine ⟨fun x hx => (List.mem_append.1 hx).elim (e1.at_ x) (e2.at_ x), ?_, ?_, fun hs => ?_, RcL.app e1.rc e2.rc⟩
 ·rw [conL_append, ← e1.cs, ← e2.cs]
 ·rw [okL_iff] at *
  intro v hv
  exact (List.mem_append.1 hv).elim (okL_iff.1 e1.ok v) (okL_iff.1 e2.ok v)
 ·have := e1.sc hs
  have := e2.sc hs
  simp_all [AV.scL]
theorem Opn.sca {v : Value} {p : PV} {a : AV} (hv : ∀ j, v = a.con j) (ho : ∀ D, a.ok D) (hs : a.sc = true) (hr : ∀ F H, Rc F H p a) : Opn W s [v] [p] :=
 ⟨0, fun _ => [], fun _ => [a], fun _ => rfl, fun pre post => ⟨fun r h => by simp at h, by simp only [AV.conL]; rw [← hv], ⟨ho _, trivial⟩, fun _ => by simp [AV.scL, hs], ⟨a, [], rfl, hr _ _, rfl⟩⟩⟩
theorem Opn.ag {cs : List Value} {p : List PV} (h : Opn W true cs p) : Opn W false [.agg cs.toArray] [.ag p] := by
 obtain ⟨k, r, a, hk, h⟩ := h
 refine ⟨k, r, fun b => [.ag (a b)], hk, fun pre post => ?_⟩
 have e := h pre post
 exact ⟨e.at_, by simp only [AV.conL, AV.con]; rw [← e.cs], ⟨⟨e.ok, e.sc rfl⟩, trivial⟩, fun h => by simp at h, ⟨_, [], rfl, ⟨_, rfl, e.rc⟩, rfl⟩⟩
theorem Opn.weak {cs : List Value} {p : List PV} (h : Opn W true cs p) : Opn W s cs p := by
 obtain ⟨k, r, a, hk, h⟩ := h
 exact ⟨k, r, a, hk, fun pre post => let e := h pre post; ⟨e.at_, e.cs, e.ok, fun _ => e.sc rfl, e.rc⟩⟩
theorem Rc_sn {F : Nat → Prop} {H : AH} {n : Nat} : Rc F H (.vs 1 n []) .sn := by
 refine ⟨⟨[], .sn, fun b h => by simp [AV.bk] at h, rfl⟩, fun _ b o q n e h => by simp at h, fun h => by omega⟩
theorem Opn.slice {a : Addr} {len cap es : Nat} {ccs : List Value} {p : List PV} (h : Opn W true ccs p) (hc : ∀ i, i < ccs.length → W.cell? (a.add i) = ccs[i]?) (hs : PV.scaL p = true) (hl : p.length = len * es) (hcap : len ≤ cap) :
  Opn W s [.slice (some a) len cap] [.vs 1 es (chunk len es p)] := by
 obtain ⟨k, r, av, hk, h⟩ := h
 refine ⟨k + 1, fun b => (a, av (b + 1)) :: r (b + 1), fun b => [.sl b 0 len cap], fun b => by simp [hk], fun pre post => ?_⟩
 have e := h (pre ++ [(a, av (pre.length + 1))]) post
 have hpl : (pre ++ [(a, av (pre.length + 1))]).length = pre.length + 1 := by simp
 rw [hpl] at e
 have ef : pre ++ [(a, av (pre.length + 1))] ++ (r (pre.length + 1) ++ post) = pre ++ ((a, av (pre.length + 1)) :: r (pre.length + 1) ++ post) := by simp
 rw [ef] at e
 generalize hfull : pre ++ ((a, av (pre.length + 1)) :: r (pre.length + 1) ++ post) = full at *
 have hget : full[pre.length]? = some (a, av (pre.length + 1)) := by rw [← hfull]; simp
 have hlt : pre.length < full.length := (List.getElem?_eq_some_iff.1 hget).1
 have hal : (av (pre.length + 1)).length = len * es := by rw [← hl]; exact RcL.len e.rc
 have hcells : ((AH.of full).g pre.length).cells = av (pre.length + 1) := by
  simp only [AH.of, hget]
  cases av (pre.length + 1) <;> rfl
 refine ⟨fun x hx => ?_, ?_, ⟨hlt, trivial⟩, fun _ => rfl, ?_⟩
 ·rcases List.mem_cons.1 hx with rfl | hx
  ·intro i v hv
   have hi : i < (av (pre.length + 1)).length := (List.getElem?_eq_some_iff.1 hv).1
   refine ⟨?_, okL_iff.1 e.ok v (List.mem_of_getElem? hv), ?_⟩
   ·show W.cell? (a.add i) = _
    rw [hc i (by rw [e.cs, conL_length]; exact hi), e.cs, conL_get, hv]
    rfl
   ·have := e.sc rfl
    simp only [AV.scL, List.all_eq_true] at this
    exact this v (List.mem_of_getElem? hv)
  ·exact e.at_ x hx
 ·simp only [AV.conL, AV.con, injOf, hget]
  simp [CB.at, Addr.add]
 ·refine ⟨_, [], rfl, ⟨⟨av (pre.length + 1), ?_, fun b hb => ?_, ?_⟩, fun _ b o q n e h => by simp at h, fun h => by omega⟩, rfl⟩
  ·rw [chunk_len]
   refine .sl hlt (fun i v hv => ?_) (by rw [hcells]; omega) hal hcap
   rw [hcells, Nat.zero_add]; exact hv
  ·simp only [AV.bk, Option.some.injEq] at hb
   subst hb; exact hlt
  ·exact chunk_ok e.rc hs hl
end
mutual
def flatT (P : Program) : Nat → TypeId → Option (List CT)
 | 0, _ => none
 | n + 1, t => match P.underlying t with
  | some .bool => some [.b]
  | some (.int k) => some [.i k]
  | some (.slice e) => (flatT P n e).bind fun es => if es.length = P.cellsOf e ∧ es ≠ [] then some [.sl es] else none
  | some (.struct fs) => (flatF P n 0 fs.toList).bind fun es => if es.length = P.cellsOf t then some es else none
  | some (.array m e) => (flatT P n e).bind fun es => if es.length = P.cellsOf e ∧ P.cellsOf t = m * es.length then some (List.replicate m es).flatten else none
  | _ => none
def flatF (P : Program) : Nat → Nat → List Field → Option (List CT)
 | 0, _, _ => none
 | n + 1, o, [] => some []
 | n + 1, o, f :: r => (flatT P n f.type).bind fun es => if es.length = P.cellsOf f.type ∧ f.offset = o then (flatF P n (o + es.length) r).map (es ++ ·) else none
end
section
variable {P : Program} {W : World} {H : Type} {enc : TypeId × Value → H}
theorem opn_rep {es : List CT} {g : Nat → List Value} : ∀ (n : Nat), (∀ i, i < n → (g i).length = es.length ∧ ∃ p, hasL es p ∧ Opn W true (g i) p) →
  ∃ p, hasL (List.replicate n es).flatten p ∧ Opn W true ((List.range n).flatMap g) p
 | 0, h => ⟨[], by simp [hasL], by simpa using Opn.nil⟩
 | n + 1, h => by
  obtain ⟨p, h1, h2⟩ := opn_rep n fun i hi => h i (by omega)
  obtain ⟨_, q, h3, h4⟩ := h n (by omega)
  refine ⟨p ++ q, ?_, ?_⟩
  ·rw [List.replicate_succ', List.flatten_append, List.flatten_singleton]
   exact hasL_app h1 h3
  ·rw [List.range_succ, List.flatMap_append, List.flatMap_singleton]
   exact h2.app h4
theorem flatMap_len {g : Nat → List Value} {e : Nat} : ∀ (n : Nat), (∀ i, i < n → (g i).length = e) → ((List.range n).flatMap g).length = n * e
 | 0, h => by simp
 | n + 1, h => by
  rw [List.range_succ, List.flatMap_append, List.length_append, flatMap_len n fun i hi => h i (by omega), List.flatMap_singleton, h n (by omega), Nat.succ_mul]
theorem flatMap_get {g : Nat → List Value} {e : Nat} : ∀ (n : Nat), (∀ i, i < n → (g i).length = e) → ∀ i j, i < n → j < e → ((List.range n).flatMap g)[i * e + j]? = (g i)[j]?
 | 0, h, i, j, hi, hj => by omega
 | n + 1, h, i, j, hi, hj => by
  rw [List.range_succ, List.flatMap_append, List.flatMap_singleton]
  have hl := flatMap_len n fun i hi => h i (by omega)
  by_cases hin : i < n
  ·have : i * e + j < n * e := by
    have : (i + 1) * e ≤ n * e := Nat.mul_le_mul_right _ hin
    rw [Nat.succ_mul] at this
    omega
   rw [List.getElem?_append_left (by omega)]
   exact flatMap_get n (fun i hi => h i (by omega)) i j hin hj
  ·obtain rfl : i = n := by omega
   rw [List.getElem?_append_right (by omega), hl]
   congr 1
   omega
theorem range_chunks {cs : List Value} {e : Nat} : ∀ (n : Nat), cs.length = n * e → (List.range n).flatMap (fun i => (cs.drop (i * e)).take e) = cs := by
 intro n h
 apply List.ext_getElem?
 intro k
 have hg : ∀ i, i < n → ((cs.drop (i * e)).take e).length = e := fun i hi => by
  have : (i + 1) * e ≤ n * e := Nat.mul_le_mul_right _ hi
  rw [Nat.succ_mul] at this
  simp only [List.length_take, List.length_drop]; omega
 by_cases hk : k < n * e
 ·have he : 0 < e := by
   rcases Nat.eq_zero_or_pos e with rfl | h
   ·simp at hk
   ·exact h
  have h1 : k / e < n := (Nat.div_lt_iff_lt_mul he).2 hk
  have h2 : k % e < e := Nat.mod_lt _ he
  have h3 : k / e * e + k % e = k := by rw [Nat.mul_comm]; exact Nat.div_add_mod k e
  have := flatMap_get n hg (k / e) (k % e) h1 h2
  rw [h3] at this
  rw [this, List.getElem?_take, if_pos h2, List.getElem?_drop, h3]
 ·rw [List.getElem?_eq_none (by rw [flatMap_len n hg]; omega), List.getElem?_eq_none (by omega)]
theorem open_both : ∀ (n : Nat), (∀ t ts, flatT P n t = some ts → ∀ fuel cs x, DataW.trod enc P W 0 (fun _ => true) true fuel t cs = some x → ∃ p, hasL ts p ∧ Opn W true cs p ∧ cs.length = ts.length) ∧
  (∀ (l : List Field) (o : Nat) (ts : List CT) (cs : List Value) (m : Nat), flatF P n o l = some ts → (∀ f ∈ l, ∃ x, DataW.trod enc P W 0 (fun _ => true) true m f.type ((cs.drop f.offset).take (P.cellsOf f.type)) = some x) → ∃ p, hasL ts p ∧ Opn W true ((cs.drop o).take ts.length) p)
 | 0 => ⟨fun t ts h => by simp [flatT] at h, fun l o ts cs m h => by simp [flatF] at h⟩
 | n + 1 => by
  obtain ⟨ih1, ih2⟩ := open_both n
  constructor
  ·intro t ts h fuel cs x hx
   unfold flatT at h
   split at h
   ·rename_i ht
    simp only [Option.some.injEq] at h; subst h
    obtain ⟨b, rfl, _⟩ := DataW.trod_bool ht hx
    refine ⟨[.bo b], by simp [hasL, hasC], Opn.sca (a := .bo b) (fun _ => rfl) (fun _ => trivial) rfl (fun _ _ => rfl), rfl⟩
   ·rename_i k ht
    simp only [Option.some.injEq] at h; subst h
    obtain ⟨m, rfl, _, hw⟩ := DataW.trod_int ht hx
    refine ⟨[.it k m], by simpa [hasL, hasC] using hw, Opn.sca (a := .it k m) (fun _ => rfl) (fun _ => trivial) rfl (fun _ _ => rfl), rfl⟩
   ·rename_i e ht
    obtain ⟨es, he, h⟩ := Option.bind_eq_some_iff.1 h
    split at h
    ·rename_i hc
     simp only [Option.some.injEq] at h; subst h
     rcases Go.Deep.open_slice ht hx with ⟨rfl, _⟩ | ⟨a, len, cap, m, nn, D, Pl, rfl, _, hl, hm, hmm, _, hall⟩
     ·refine ⟨[.vs 1 es.length []], ?_, Opn.sca (a := .sn) (fun _ => rfl) (fun _ => trivial) rfl (fun _ _ => Rc_sn), rfl⟩
      simp only [hasL, hasC]
      exact ⟨_, _, rfl, ⟨[], rfl, by simp, fun x h => by simp at h⟩, rfl⟩
     ·simp only [if_true] at hmm
      subst hmm
      have hall' : ∀ i, ∃ cs', i < len → W.cells? 0 (a.add (i * P.cellsOf e)) (P.cellsOf e) = some cs' ∧ ∃ p, hasL es p ∧ Opn W true cs' p := fun i => by
       by_cases hi : i < len
       ·obtain ⟨cs', h1, h2⟩ := hall i (by omega)
        obtain ⟨p, h3, h4, _⟩ := ih1 e es he _ _ _ h2
        exact ⟨cs', fun _ => ⟨h1, p, h3, h4⟩⟩
       ·exact ⟨[], fun h => absurd h hi⟩
      obtain ⟨g, hg⟩ := Classical.axiomOfChoice hall'
      have hgl : ∀ i, i < len → (g i).length = es.length := fun i hi => by
       rw [(World.cells?_some (hg i hi).1).2.1, hc.1]
      obtain ⟨p, h1, h2⟩ := opn_rep (W := W) len fun i hi => ⟨hgl i hi, (hg i hi).2⟩
      refine ⟨[.vs 1 es.length (chunk len es.length p)], ?_, ?_, rfl⟩
      ·simp only [hasL, hasC]
       exact ⟨_, _, rfl, ⟨_, rfl, by rw [chunk_len]; omega, hasL_chunk h1⟩, rfl⟩
      ·refine Opn.slice h2 (fun i hi => ?_) (hasL_sca h1) ?_ hl
       ·rw [flatMap_len len hgl] at hi
        have he0 : 0 < es.length := List.length_pos_iff.2 hc.2
        have q1 : i / es.length < len := (Nat.div_lt_iff_lt_mul he0).2 hi
        have q2 : i % es.length < es.length := Nat.mod_lt _ he0
        have q3 : i / es.length * es.length + i % es.length = i := by rw [Nat.mul_comm]; exact Nat.div_add_mod i _
        have := flatMap_get len hgl _ _ q1 q2
        rw [q3] at this
        rw [this, ← (World.cells?_some (hg _ q1).1).2.2 _ (by rw [← hc.1]; exact q2), ← hc.1, Addr.add_add, q3]
       ·rw [hasL_len h1]; simp
    ·cases h
   ·rename_i fs ht
    obtain ⟨es, he, h⟩ := Option.bind_eq_some_iff.1 h
    split at h
    ·rename_i hc
     simp only [Option.some.injEq] at h; subst h
     obtain ⟨xs, m, rfl, _, hl, hxs, hall⟩ := DataW.trod_struct ht hx
     obtain ⟨p, h1, h2⟩ := ih2 fs.toList 0 es cs m he fun f hf => by
      obtain ⟨i, hi⟩ := List.mem_iff_getElem?.1 hf
      have hi' : fs[i]? = some f := by simpa using hi
      have hlt : i < xs.length := by rw [hxs]; exact (Array.getElem?_eq_some_iff.1 hi').1
      exact ⟨xs[i], by rw [hall i f hi', List.getElem?_eq_getElem hlt]⟩
     rw [List.drop_zero, List.take_of_length_le (by omega)] at h2
     exact ⟨p, h1, h2, by omega⟩
    ·cases h
   ·rename_i m e ht
    obtain ⟨es, he, h⟩ := Option.bind_eq_some_iff.1 h
    split at h
    ·rename_i hc
     simp only [Option.some.injEq] at h; subst h
     obtain ⟨xs, mm, rfl, _, hl, hxs, hall⟩ := DataW.trod_array ht hx
     obtain ⟨p, h1, h2⟩ := opn_rep (W := W) (es := es) (g := fun i => (cs.drop (i * es.length)).take es.length) m fun i hi => by
      have := hall i hi
      rw [List.getElem?_eq_getElem (by omega), ← hc.1] at this
      obtain ⟨p, h3, h4, h5⟩ := ih1 e es he _ _ _ this
      exact ⟨h5, p, h3, h4⟩
     rw [range_chunks m (by rw [hl, hc.2])] at h2
     exact ⟨p, h1, h2, by rw [hl, hc.2]; simp⟩
    ·cases h
   ·cases h
  ·intro l o ts cs m h hall
   match l with
   | [] =>
    simp only [flatF, Option.some.injEq] at h; subst h
    exact ⟨[], by simp [hasL], by simpa using Opn.nil⟩
   | f :: r =>
    simp only [flatF] at h
    obtain ⟨es, he, h⟩ := Option.bind_eq_some_iff.1 h
    split at h
    ·rename_i hc
     obtain ⟨ts', h', rfl⟩ := Option.map_eq_some_iff.1 h
     obtain ⟨x, hx⟩ := hall f (by simp)
     obtain ⟨p, h1, h2, h3⟩ := ih1 _ _ he _ _ _ hx
     obtain ⟨q, h4, h5⟩ := ih2 r _ ts' cs m h' fun f hf => hall f (by simp [hf])
     refine ⟨p ++ q, hasL_app h1 h4, ?_⟩
     have e1 : (cs.drop o).take (es ++ ts').length = (cs.drop o).take es.length ++ (cs.drop (o + es.length)).take ts'.length := by
      rw [List.length_append, List.take_add, List.drop_drop]
     rw [e1]
     rw [hc.2, ← hc.1] at h2
     exact h2.app h5
    ·cases h
def topT (P : Program) (n : Nat) (t : TypeId) : Option (Bool × List CT) :=
 match P.underlying t with
 | some (.struct _) | some (.array _ _) => (flatT P n t).map fun l => (true, l)
 | some .bool | some (.int _) | some (.slice _) => (flatT P n t).map fun l => (false, l)
 | _ => none
def hasT : List (Bool × List CT) → List PV → Prop
 | [], l => l = []
 | (true, ts) :: r, l => ∃ p l', l = .ag p :: l' ∧ hasL ts p ∧ hasT r l'
 | (false, ts) :: r, l => ∃ v l', l = v :: l' ∧ hasL ts [v] ∧ hasT r l'
theorem open_args {n : Nat} : ∀ (tt : List (Bool × List CT)) (ts : List TypeId) (vs : List Value) (ds : List (DataW H)) (ps : List MemPlace) (base : Nat), ts.map (topT P n) = tt.map some →
  (∀ (j : Nat) t v, ts[j]? = some t → vs[j]? = some v → Value.okWide P W .any base t v) → DataW.TrodAll enc P W 0 (fun _ => true) true ts vs ds ps → ∃ p, hasT tt p ∧ Opn W false vs p
 | [], ts, vs, ds, ps, base, ht, hv, h => by
  obtain rfl : ts = [] := by simpa using ht
  obtain ⟨rfl, rfl, rfl⟩ := trodAll_nil h
  exact ⟨[], rfl, Opn.nil⟩
 | c :: tt, [], vs, ds, ps, base, ht, hv, h => by simp at ht
 | c :: tt, t :: ts, vs, ds, ps, base, ht, hv, h => by
  simp only [List.map_cons, List.cons.injEq] at ht
  obtain ⟨v, vs', d, ds', p, q, rfl, rfl, rfl, h1, h2⟩ := trodAll_cons h
  obtain ⟨pr, hr, ho⟩ := open_args tt ts vs' ds' q base ht.2 (fun j t v h h' => hv (j + 1) t v h h') h2
  obtain ⟨fuel, hf⟩ := h1
  have hw := hv 0 t v rfl rfl
  have ht1 := ht.1
  unfold topT at ht1
  unfold Value.okWide at hw
  split at ht1
  ·rename_i hu
   rw [hu] at hw
   obtain ⟨cs, rfl, _⟩ := hw
   obtain ⟨l, hl, rfl⟩ := Option.map_eq_some_iff.1 ht1
   obtain ⟨x, h3, h4, _⟩ := (open_both n).1 t l hl _ _ _ hf
   refine ⟨.ag x :: pr, ⟨_, _, rfl, h3, hr⟩, ?_⟩
   have := h4.ag.app ho
   simpa [Value.cells] using this
  ·rename_i hu
   rw [hu] at hw
   obtain ⟨cs, rfl, _⟩ := hw
   obtain ⟨l, hl, rfl⟩ := Option.map_eq_some_iff.1 ht1
   obtain ⟨x, h3, h4, _⟩ := (open_both n).1 t l hl _ _ _ hf
   refine ⟨.ag x :: pr, ⟨_, _, rfl, h3, hr⟩, ?_⟩
   have := h4.ag.app ho
   simpa [Value.cells] using this
  ·rename_i hu
   obtain ⟨l, hl, rfl⟩ := Option.map_eq_some_iff.1 ht1
   obtain ⟨b, rfl⟩ := okWide_bool hu (hv 0 t v rfl rfl)
   obtain ⟨x, h3, h4, h5⟩ := (open_both n).1 t l hl _ _ _ hf
   have hx := hasL_len h3
   match x, hx with
   | [y], _ => exact ⟨y :: pr, ⟨_, _, rfl, h3, hr⟩, by simpa [Value.cells] using (h4.weak (s := false)).app ho⟩
   | [], h6 => rw [← h5] at h6; simp [Value.cells] at h6
   | _ :: _ :: _, h6 => rw [← h5] at h6; simp [Value.cells] at h6
  ·rename_i hu
   obtain ⟨l, hl, rfl⟩ := Option.map_eq_some_iff.1 ht1
   obtain ⟨b, rfl⟩ := okWide_int hu (hv 0 t v rfl rfl)
   obtain ⟨x, h3, h4, h5⟩ := (open_both n).1 t l hl _ _ _ hf
   have hx := hasL_len h3
   match x, hx with
   | [y], _ => exact ⟨y :: pr, ⟨_, _, rfl, h3, hr⟩, by simpa [Value.cells] using (h4.weak (s := false)).app ho⟩
   | [], h6 => rw [← h5] at h6; simp [Value.cells] at h6
   | _ :: _ :: _, h6 => rw [← h5] at h6; simp [Value.cells] at h6
  ·rename_i hu
   obtain ⟨l, hl, rfl⟩ := Option.map_eq_some_iff.1 ht1
   obtain ⟨a, ln, cp, rfl⟩ := okWide_slice hu (hv 0 t v rfl rfl)
   obtain ⟨x, h3, h4, h5⟩ := (open_both n).1 t l hl _ _ _ hf
   have hx := hasL_len h3
   match x, hx with
   | [y], _ => exact ⟨y :: pr, ⟨_, _, rfl, h3, hr⟩, by simpa [Value.cells] using (h4.weak (s := false)).app ho⟩
   | [], h6 => rw [← h5] at h6; simp [Value.cells] at h6
   | _ :: _ :: _, h6 => rw [← h5] at h6; simp [Value.cells] at h6
  ·cases ht1
theorem calls_of_pu {f : FuncId} {n : Nat} (tt : List (Bool × List CT)) {ts : List TypeId} {args : Array Value} {ds : List (DataW H)} {ps : List MemPlace} {base : Nat} (ht : ts.map (topT P n) = tt.map some)
  (hv : ∀ (j : Nat) t v, ts[j]? = some t → args[j]? = some v → Value.okWide P W .any base t v) (h : DataW.TrodAll enc P W 0 (fun _ => true) true ts args.toList ds ps)
  (hpu : ∀ p, hasT tt p → Pu P f p [] (.bo true)) : Calls P f args W fun e W' => e = .returned (.bool true) ∧ Below W.heap.size W W' := by
 obtain ⟨p, h1, k, rows, avs, hk, h2⟩ := open_args tt ts args.toList ds ps base ht (fun j t v h h' => hv j t v h (by simpa using h')) h
 have e := h2 [] []
 simp only [List.nil_append, List.append_nil, List.length_nil] at e
 have hR : RowsIn W (rows 0) := ⟨fun b a l hb i v hi => e.at_ (a, l) (List.mem_of_getElem? hb) i v hi⟩
 have hc : Call P f (avs 0) (AH.of (rows 0)) fun r H' => r = .ret (.bo true) ∧ True := by
  obtain ⟨a, H', L', h3, _, _, h4, _⟩ := hpu p h1 ⟨0, fun _ => .sn, (· < (rows 0).length)⟩ (AH.of (rows 0)) (avs 0) (HR_nil (fun X hX => hX) fun X hX => by
   simp only [AH.of]; rw [List.getElem?_eq_none hX]) (RcL.p _ e.rc)
  simp only [Rp] at h4
  subst h4
  exact ⟨_, _, h3, rfl, trivial⟩
 have := calls_of_call hR e.ok hc
 rw [← e.cs] at this
 exact this
end
end Go.AX
end
section
namespace Go.AX
open Go
abbrev PCallP (P : Program) (f : FuncId) (B : List PB) (args : List PV) (B' : List PB) (v : PV) (T : List Nat) : Prop := PCallG (PanC P f) B args B' v T
abbrev DfrC (P : Program) (f : FuncId) : List AV → AH → AV → AH → Prop := fun avs H a H' => ∃ as v, avs = as ++ [v] ∧ DefT P f as v H H' ∧ a = .tu []
abbrev PDefC (P : Program) (f : FuncId) (B : List PB) (args : List PV) (B' : List PB) (v : PV) (T : List Nat) : Prop := PCallG (DfrC P f) B (args ++ [v]) B' (.tu []) T
section
variable {P : Program} {K : Nat} {R : PEnd} {k : List It} {E : PE0} {B : List PB}
theorem X_ocp {R : Fin} {d : Option Nat} {f : FuncId} {args : List Opd} {l : List ROper} {E : Env} {H H' : AH} {ds : List ADef} {p : List PE} (h : CallT P f (vals E args) H (.pan p) H') (hr : R (.pan p) E H' ds) : X P R (.o (⟨d, none, .call f args⟩ :: l) :: k) E H ds := by
 refine ⟨1, ?_⟩
 simp only [XF, gwant, Option.some.injEq, exists_eq_left', if_true]
 exact ⟨_, H', h, hr⟩
theorem X_calvp {R : Fin} {d : Option Nat} {x : Opd} {args : List Opd} {l : List ROper} {E : Env} {H H' : AH} {ds : List ADef} {f : FuncId} {as : List AV} {p : List PE} (hf : funOf (vals E args) (ev E x) = some (f, as)) (hb : Bd P f) (hc : CallT P f as H (.pan p) H')
  (hr : R (.pan p) E H' ds) : X P R (.o (⟨d, none, .calv x args⟩ :: l) :: k) E H ds := by
 refine ⟨1, ?_⟩
 simp only [XF, gwant, Option.some.injEq, exists_eq_left', if_true]
 exact ⟨f, as, hf, hb, _, H', hc, hr⟩
theorem Y_callp {d : Option Nat} {f : FuncId} {args : List Opd} {l : List ROper} {v : PV} {B' : List PB} {T : List Nat} (h : PCallP P f B (args.map (pev E)) B' v T) (hr : R (some v) E B') : Y P K R (.o (⟨d, none, .call f args⟩ :: l) :: k) E B := by
 intro L0 H0 B0 Rx r1 r2 L H Ea fw hK hR hE
 obtain ⟨a, H', L', h1, h2, h3, h4, _⟩ := h L H _ hR (RpL_map hE args)
 exact X_ocp h1 (r2 L' H' E B' Ea v a (fw.trans (h2.fw hK)) (Nat.le_trans hK h2.k.n) h3 (hE.mono h2.k) h4 hr)
theorem Y_calvp {d : Option Nat} {x : Opd} {f : FuncId} {pa ca : List PV} {args : List Opd} {l : List ROper} {v : PV} {B' : List PB} {T : List Nat} (hx : pev E x = .fn (.func f) pa ca) (hb : Bd P f) (h : PCallP P f B (pa ++ args.map (pev E) ++ ca) B' v T) (hr : R (some v) E B') :
  Y P K R (.o (⟨d, none, .calv x args⟩ :: l) :: k) E B := by
 intro L0 H0 B0 Rx r1 r2 L H Ea fw hK hR hE
 have hr0 := Rp_ev hE x
 rw [hx] at hr0
 obtain ⟨p', c', h5, h6, h7⟩ := hr0
 obtain ⟨a, H', L', h1, h2, h3, h4, _⟩ := h L H (p' ++ vals Ea args ++ c') hR ((h6.app (RpL_map hE args)).app h7)
 exact X_calvp (by rw [h5]; rfl) hb h1 (r2 L' H' E B' Ea v a (fw.trans (h2.fw hK)) (Nat.le_trans hK h2.k.n) h3 (hE.mono h2.k) h4 hr)
def noB (n : Nat) : List PB := List.replicate n .no
def EndsP (w : PV) : PEnd := ⟨fun o _ B => ∃ u, o = some u ∧ ∀ L H a, HR L H B → Rp L H u a → Rp L H w a, [], true⟩
def EndsN (K : Nat) (B1 : List PB) : PEnd := ⟨fun o E B => match o with | none => Wv K B (.tu []) B1 (.tu []) | some _ => False, [], false⟩
def recV : Option PV → PV → Prop
 | none, v => v = .ni
 | some u, v => v = u ∧ ∃ t x, u = .fc t x
end
end Go.AX
end
