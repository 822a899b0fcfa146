/- Parts: AxN AxJ AxK AxKb AxO AxP AxQ AxR AxS AxL AxM AxMb AxU AxV AxW. -/
import Derived.Test.YtbflhammcjihgaaGreatGxA
import Derived.IntWalk
import Derived.ProofKit
import Derived.OpenShut
import Derived.ShutString
import Derived.ChangeOld
import Derived.Below
import Derived.Carry
import Derived.SizedLaws
set_option linter.unusedSimpArgs false
set_option linter.unusedVariables false
section
namespace Go.AX
open Go
def VOp.opds : VOp → List Opd
 | .mv x => [x]
 | .pick c a b => [c, a, b]
 | .alloc _ => []
 | .box x => [x]
 | .bld _ ps => ps.map (·.x)
 | .bsl _ _ ps => ps.map (·.x)
 | .ld _ x => [x]
 | .ld1 x => [x]
 | .sto _ a x => [a, x]
 | .nilc x => [x]
 | .bin _ _ _ x y => [x, y]
 | .un _ x => [x]
 | .cvi _ x => [x]
 | .cvsame x => [x]
 | .b2s x => [x]
 | .s2b x => [x]
 | .mkif _ x => [x]
 | .mkfn _ a c => a ++ c
 | .mks _ _ l c => [l, c]
 | .slc _ x lo hi mx => x :: (lo.toList ++ (hi.toList ++ mx.toList))
 | .slcs x lo hi => x :: (lo.toList ++ hi.toList)
 | .slca _ _ x lo hi mx => x :: (lo.toList ++ (hi.toList ++ mx.toList))
 | .fa _ x => [x]
 | .fld _ _ _ x => [x]
 | .ia _ x i => [x, i]
 | .iaa _ _ x i => [x, i]
 | .ix _ _ _ x i => [x, i]
 | .ixs x i => [x, i]
 | .ext x _ => [x]
 | .ta _ _ x => [x]
 | .len _ x => [x]
 | .lenk _ => []
 | .cap x => [x]
 | .mm _ xs => xs
 | .app _ _ s x => [s, x]
 | .appn _ _ _ s n => [s, n]
 | .cpy _ d s => [d, s]
 | .mkm => []
 | .lkp _ _ x i => [x, i]
 | .mup _ m k x => [m, k, x]
 | .mdel m k => [m, k]
 | .ment _ m k => [m, k]
theorem bnd_congr {E E' : Env} {x : Option Opd} (h : ∀ y ∈ x.toList, ev E y = ev E' y) (d top : Nat) : bnd E d top x = bnd E' d top x := by
 cases x with
 | none => rfl
 | some y => simp only [bnd, h y (by simp)]
theorem vfill_congr {E E' : Env} : ∀ (ps : List Part) (cs : List AV), (∀ y ∈ ps.map (·.x), ev E y = ev E' y) → vfill E cs ps = vfill E' cs ps
 | [], cs, _ => rfl
 | p :: r, cs, h => by
  simp only [vfill, h p.x (by simp)]
  congr 1
  funext m
  split
  ·exact vfill_congr r _ fun y hy => h y (by simp only [List.map_cons, List.mem_cons]; exact .inr hy)
  ·rfl
theorem vop_congr {vo : VOp} {E E' : Env} {H : AH} (h : ∀ x ∈ vo.opds, ev E x = ev E' x) : vop vo E H = vop vo E' H := by
 cases vo <;> simp only [VOp.opds] at h <;> simp only [vop]
 all_goals first
   | rfl
   | (simp only [List.mem_cons, List.not_mem_nil, or_false, forall_eq_or_imp, forall_eq] at h; simp only [h]; done)
   | skip
 case bld z ps => rw [vfill_congr ps z h]
 case bsl n z ps => rw [vfill_congr ps z h]
 case mkfn f a c =>
   rw [show a.map (ev E) = a.map (ev E') from List.map_congr_left fun x hx => h x (by simp [hx]), show c.map (ev E) = c.map (ev E') from List.map_congr_left fun x hx => h x (by simp [hx])]
 case slc es x lo hi mx =>
   have h0 := h x (by simp)
   have h1 := fun d top => bnd_congr (E := E) (E' := E') (x := lo) (fun y hy => h y (by simp at hy ⊢; simp [hy])) d top
   have h2 := fun d top => bnd_congr (E := E) (E' := E') (x := hi) (fun y hy => h y (by simp at hy ⊢; simp [hy])) d top
   have h3 := fun d top => bnd_congr (E := E) (E' := E') (x := mx) (fun y hy => h y (by simp at hy ⊢; simp [hy])) d top
   rw [h0]
   congr 1
   unfold vslc
   split <;> first
     | rfl
     | (simp only [h1, h2, h3]; done)
     | (split
        · split
          · simp only [h1, h2]
          · simp only [h1, h2]
            rename_i mo
            have h4 := fun d top => bnd_congr (E := E) (E' := E') (x := some mo) (fun y hy => h y (by simp at hy ⊢; simp [hy])) d top
            simp only [h4]
        · rfl)
 case slcs x lo hi =>
   have h0 := h x (by simp)
   have h1 := fun d top => bnd_congr (E := E) (E' := E') (x := lo) (fun y hy => h y (by simp at hy ⊢; simp [hy])) d top
   have h2 := fun d top => bnd_congr (E := E) (E' := E') (x := hi) (fun y hy => h y (by simp at hy ⊢; simp [hy])) d top
   rw [h0]
   congr 1
   unfold vslcs
   split
   · simp only [h1, h2]
   · rfl
 case slca n es x lo hi mx =>
   have h0 := h x (by simp)
   have h1 := fun d top => bnd_congr (E := E) (E' := E') (x := lo) (fun y hy => h y (by simp at hy ⊢; simp [hy])) d top
   have h2 := fun d top => bnd_congr (E := E) (E' := E') (x := hi) (fun y hy => h y (by simp at hy ⊢; simp [hy])) d top
   have h3 := fun d top => bnd_congr (E := E) (E' := E') (x := mx) (fun y hy => h y (by simp at hy ⊢; simp [hy])) d top
   rw [h0]
   congr 1
   unfold vslca
   split
   · simp only [h1, h2, h3]
   · rfl
 case mm mx xs =>
   cases xs with
   | nil => rfl
   | cons x r =>
     have h0 := h x (by simp)
     simp only
     rw [h0, show r.map (ev E) = r.map (ev E') from List.map_congr_left fun y hy => h y (by simp [hy])]
def VOp.cls : VOp → Nat
 | .alloc _ => 1
 | .box _ => 1
 | .bsl _ _ _ => 1
 | .mks _ _ _ _ => 1
 | .sto _ _ _ => 2
 | .app _ _ _ _ => 2
 | .appn _ _ _ _ _ => 2
 | .cpy _ _ _ => 2
 | .mkm => 2
 | .s2b _ => 2
 | .mup _ _ _ _ => 2
 | .mdel _ _ => 2
 | .ment _ _ _ => 2
 | _ => 0
def VOp.pure : VOp → Bool
 | .mv _ => true
 | .pick _ _ _ => true
 | .bld _ _ => true
 | .nilc _ => true
 | .bin _ _ _ _ _ => true
 | .un _ _ => true
 | .cvi _ _ => true
 | .mkif _ _ => true
 | .mkfn _ _ _ => true
 | .slcs _ _ _ => true
 | .slca _ _ _ _ _ _ => true
 | .fa _ _ => true
 | .fld _ _ _ _ => true
 | .iaa _ _ _ _ => true
 | .ix _ _ _ _ _ => true
 | .ixs _ _ => true
 | .ext _ _ => true
 | .ta _ _ _ => true
 | .lenk _ => true
 | .cap _ => true
 | .mm _ _ => true
 | _ => false
theorem cls0 {vo : VOp} {E : Env} {H H' : AH} {v : AV} (hc : vo.cls = 0) (h : vop vo E H = some (v, H')) : H' = H := by
 cases vo
 all_goals first
  | exact absurd hc (show ¬ ((1 : Nat) = 0) by decide)
  | exact absurd hc (show ¬ ((2 : Nat) = 0) by decide)
  | exact (map_pair h).2
  | (simp only [vop, Option.some.injEq, Prod.mk.injEq] at h; exact h.2.symm)
  | skip
 case bld z ps =>
  simp only [vop, Option.map_eq_some_iff, Prod.mk.injEq] at h
  obtain ⟨l, _, _, rfl⟩ := h
  rfl
 case mm mx xs =>
  cases xs with
  | nil => simp [vop] at h
  | cons x r => exact (map_pair h).2
theorem pure_any {vo : VOp} {E : Env} {H H' : AH} {v : AV} (hp : vo.pure = true) (h : vop vo E H = some (v, H)) : vop vo E H' = some (v, H') := by
 have key : ∀ (x : Option AV), (x.map (·, H)) = some (v, H) → (x.map (·, H')) = some (v, H') := by
  intro x hx
  obtain ⟨rfl, _⟩ := map_pair hx
  rfl
 cases vo <;> first
  | exact absurd hp (show ¬ (false = true) by decide)
  | exact key _ h
  | (simp only [vop, Option.some.injEq, Prod.mk.injEq, and_true] at h ⊢; exact h)
  | skip
 case bld z ps =>
  simp only [vop, Option.map_eq_some_iff, Prod.mk.injEq] at h ⊢
  obtain ⟨l, hl, h1, _⟩ := h
  exact ⟨l, hl, h1, trivial⟩
 case mm mx xs =>
  cases xs with
  | nil => simp [vop] at h
  | cons x r => exact key _ h
theorem stable_al {vo : VOp} {E : Env} {H : AH} {v : AV} (hc : vo.cls = 0) (hn : H.g H.nx = .no) (h : vop vo E H = some (v, H)) (l : List AV) : vop vo E (H.al l) = some (v, H.al l) := by
 by_cases hp : vo.pure = true
 ·exact pure_any hp h
 ·have hg : ∀ b, H.g b ≠ .no → (H.al l).g b = H.g b := by
   intro b hb
   simp only [AH.al]
   rw [if_neg (fun e => hb (by rw [e]; exact hn))]
  cases vo <;> first
   | exact absurd hc (show ¬ ((1 : Nat) = 0) by decide)
   | exact absurd hc (show ¬ ((2 : Nat) = 0) by decide)
   | exact absurd rfl hp
   | skip
  case ld n x =>
   have h1 := (map_pair h).1
   simp only [vop]
   have : vld n (H.al l) (ev E x) = some v := by
    cases hx : ev E x <;> rw [hx] at h1 <;> simp only [vld, reduceCtorEq] at h1 ⊢
    rename_i b o
    obtain ⟨m, hm, rfl⟩ := Option.map_eq_some_iff.1 h1
    refine Option.map_eq_some_iff.2 ⟨m, ?_, rfl⟩
    unfold AH.rd at hm ⊢
    split at hm
    ·rename_i hle
     simp only [Option.some.injEq] at hm; subst hm
     by_cases hb : H.g b = .no
     ·rw [hb] at hle
      simp only [Blk.cells, List.length_nil, Nat.le_zero_eq, Nat.add_eq_zero_iff] at hle
      obtain ⟨rfl, rfl⟩ := hle
      simp [hb, Blk.cells]
     ·rw [hg b hb, if_pos hle]
    ·cases hm
   rw [this]; rfl
  case ld1 x =>
   have h1 := (map_pair h).1
   simp only [vop]
   have : vld1 (H.al l) (ev E x) = some v := by
    cases hx : ev E x <;> rw [hx] at h1 <;> simp only [vld1, reduceCtorEq] at h1 ⊢
    rename_i b o
    have hb : H.g b ≠ .no := fun e => by rw [e] at h1; simp [Blk.cells] at h1
    rw [hg b hb]; exact h1
   rw [this]; rfl
  case cvsame x =>
   have h1 := (map_pair h).1
   simp only [vop]
   have : vcvsame (H.al l) (ev E x) = some v := by
    cases hx : ev E x <;> rw [hx] at h1 <;> simp only [vcvsame, reduceCtorEq] at h1 ⊢
    ·rename_i b o n c
     split at h1
     ·rename_i ho
      have hb : H.g b ≠ .no := fun e => by rw [e] at ho; simp [Blk.own] at ho
      rw [hg b hb, if_pos ho]; exact h1
     ·cases h1
    ·rename_i b o q n es
     split at h1
     ·rename_i ho
      have hb : H.g b ≠ .no := fun e => by rw [e] at ho; simp [Blk.own] at ho
      rw [hg b hb, if_pos ho]; exact h1
     ·cases h1
   rw [this]; rfl
  case b2s x =>
   have h1 := (map_pair h).1
   simp only [vop]
   have : vb2s (H.al l) (ev E x) = some v := by
    unfold vb2s at h1 ⊢
    obtain ⟨nm, h2, h3⟩ := Option.bind_eq_some_iff.1 h1
    refine Option.bind_eq_some_iff.2 ⟨nm, ?_, h3⟩
    have rdl : ∀ b o n m, H.rd b o n = some m → (H.al l).rd b o n = some m := by
     intro b o n m hm
     unfold AH.rd at hm ⊢
     by_cases hb : H.g b = .no
     ·split at hm
      ·rename_i hle
       rw [hb] at hle hm
       simp only [Blk.cells, List.length_nil, Nat.le_zero_eq, Nat.add_eq_zero_iff] at hle
       obtain ⟨rfl, rfl⟩ := hle
       simp at hm
       simp [hm]
      ·cases hm
     ·rw [hg b hb]; exact hm
    cases hx : ev E x <;> rw [hx] at h2 <;> simp only [AH.sc, reduceCtorEq] at h2 ⊢
    ·exact h2
    ·obtain ⟨m, hm, rfl⟩ := Option.map_eq_some_iff.1 h2
     rw [rdl _ _ _ _ hm]; rfl
    ·rename_i b o q n es'
     split at h2
     ·rename_i hc
      have hb : H.g b ≠ .no := fun e => by have := hc.2.2; rw [e] at this; simp [Blk.isRw] at this
      rw [hg b hb, if_pos hc]
      obtain ⟨m, hm, rfl⟩ := Option.map_eq_some_iff.1 h2
      rw [rdl _ _ _ _ hm]; rfl
     ·cases h2
   rw [this]; rfl
  case slc es x lo hi mx =>
   have h1 := (map_pair h).1
   simp only [vop]
   have : vslc es (H.al l) E (ev E x) lo hi mx = some v := by
    cases hx : ev E x <;> rw [hx] at h1 <;> simp only [vslc, reduceCtorEq] at h1 ⊢
    ·exact h1
    ·exact h1
    ·rename_i b o q n es'
     split at h1
     ·rename_i hc
      have hb : H.g b ≠ .no := fun e => by have := hc.2.2.2; rw [e] at this; simp [Blk.isRw] at this
      rw [hg b hb, if_pos hc]; exact h1
     ·cases h1
   rw [this]; rfl
  case ia es x i =>
   have h1 := (map_pair h).1
   simp only [vop]
   have : via es (H.al l) (ev E x) (ev E i) = some v := by
    cases hx : ev E x <;> cases hi : ev E i <;> rw [hx, hi] at h1 <;> simp only [via, reduceCtorEq] at h1 ⊢
    ·exact h1
    ·rename_i b o q n es' k ii
     split at h1
     ·rename_i hc
      have hb : H.g b ≠ .no := fun e => by have := hc.2.2.2.1; rw [e] at this; simp [Blk.isRw] at this
      rw [hg b hb, if_pos hc]; exact h1
     ·cases h1
   rw [this]; rfl
  case len k x =>
   have h1 := (map_pair h).1
   simp only [vop]
   have : vlen k (H.al l) (ev E x) = some v := by
    generalize ev E x = u at *
    unfold vlen at h1 ⊢
    split
    ·exact h1
    ·exact h1
    ·simp only at h1
     cases u <;> first
      | exact h1
      | skip
     rename_i b
     simp only at h1 ⊢
     cases hb : H.g b <;> rw [hb] at h1 <;> first
      | cases h1
      | skip
     rename_i es
     rw [hg b (by rw [hb]; simp), hb]
     try exact h1
   rw [this]; rfl
  case lkp z ok x i =>
   have h1 := (map_pair h).1
   simp only [vop]
   have : vlkp z ok (H.al l) (ev E x) (ev E i) = some v := by
    generalize ev E x = u at *
    generalize ev E i = y at *
    unfold vlkp at h1 ⊢
    split at h1
    ·rename_i b k n
     split at h1
     ·rename_i hd es hgb
      rw [hg b (by rw [hgb]; simp), hgb]
      exact h1
     ·cases h1
    ·cases h1
   rw [this]; rfl
end Go.AX
end
section
namespace Go.AX
open Go
inductive ROp where
 | v (o : VOp)
 | call (f : FuncId) (args : List Opd)
 | calv (f : Opd) (args : List Opd)
 | pan (x : Opd)
 | dfr (f : Opd) (args : List Opd)
structure ROper where
 d : Option Nat
 g : Option (Nat × Bool)
 o : ROp
def resG (ops : Array Oper) : Option (Nat × Bool) → Option (Option (Nat × Bool))
 | none => some none
 | some (i, b) => ((ops[i]?).bind (·.dst)).map fun d => some (d, b)
def dstOk (nt : Nat) : Option Nat → Bool
 | none => true
 | some d => decide (d < nt)
def resP (P : Program) (nt : Nat) (o : Oper) : Option ROp :=
 match o.op with
 | .call { callee := .value (.func f), args, .. } =>
  match P.funcs[f]? with
  | some fn => if fn.body.isSome && !(fn.name == "runtime.NumGoroutine") then (resL nt args.toList).map (.call f) else none
  | none => none
 | .call { callee := .value x, args, .. } => (resO nt x).bind fun x => (resL nt args.toList).map (.calv x)
 | .panic x => (resO nt x).map .pan
 | .defer { callee := .value x, args, .. } => (resO nt x).bind fun x => (resL nt args.toList).map (.dfr x)
 | _ => (resV P nt o).map .v
def resR (P : Program) (nt : Nat) (ops : Array Oper) (o : Oper) : Option ROper :=
 if dstOk nt o.dst then (resG ops o.guard).bind fun g => if dstOk nt (g.map (·.1)) then (resP P nt o).map fun r => ⟨o.dst, g, r⟩ else none else none
def resOps (P : Program) (nt : Nat) (ops : Array Oper) : List Oper → Option (List ROper)
 | [] => some []
 | o :: r => (resR P nt ops o).bind fun x => (resOps P nt ops r).map (x :: ·)
structure PE where
 v : AV
 r : Bool
def PE.con (j : Inj) (p : PE) : PanicEntry := { v := p.v.con j, recovered := p.r }
structure ADef where
 f : FuncId
 args : List AV
inductive BOut where
 | ret
 | pan (l : List PE)
inductive AEnd where
 | ret (v : AV)
 | pan (l : List PE)
def AEnd.ok (D : Nat → Prop) : AEnd → Prop
 | .ret v => v.ok D
 | .pan l => ∀ p ∈ l, p.v.ok D
def AEnd.con (j : Inj) : AEnd → Ending
 | .ret v => .returned (v.con j)
 | .pan l => .panicked (l.map (PE.con j))
def CallT (P : Program) (f : FuncId) (args : List AV) (H : AH) (r : AEnd) (H' : AH) : Prop :=
 ∀ base D j w, Sim base D j H w → AV.okL D args → Calls P f (AV.conL j args).toArray w fun e w' => ∃ j', e = r.con j' ∧ r.ok (Dnew D H H') ∧ Post base D j H w H' w' j'
def gwant (E : Env) : Option (Nat × Bool) → Option Bool
 | none => some true
 | some (t, b) => match E t with | .bo c => some (c == b) | .tu [] => some false | _ => none
def vals (E : Env) (l : List Opd) : List AV := l.map (ev E)
def funOf (args : List AV) : AV → Option (FuncId × List AV)
 | .fn (.func f) a c => some (f, a ++ args ++ c)
 | _ => none
instance : Inhabited ROper := ⟨⟨none, none, .v (.lenk 0)⟩⟩
structure DOp where
 r : ROper
 rk : List ROper
def ROp.opds : ROp → List Opd
 | .v vo => vo.opds
 | .call _ args => args
 | .calv x args => x :: args
 | .pan x => [x]
 | .dfr x args => x :: args
def opdT : List Opd → List Nat
 | [] => []
 | .t n :: r => n :: opdT r
 | _ :: r => opdT r
def ROper.reads (r : ROper) : List Nat := (r.g.map (·.1)).toList ++ opdT r.o.opds
def ROper.names (r : ROper) : List Nat := r.d.toList ++ r.reads
def ROper.act (r : ROper) : Bool := match r.o with | .v vo => vo.cls == 2 | _ => true
def ROper.pure (r : ROper) : Bool := match r.o with | .v vo => vo.pure | _ => false
def sameB (v : AV) (H H' : AH) : Prop := match v with | .pt b _ => H'.g b = H.g b | .sl b _ _ _ => H'.g b = H.g b | _ => False
def Rechk (r : ROper) (E : Env) (H H' : AH) : Prop :=
 ∀ d, r.d = some d → gwant E r.g = some false ∨ match r.o with
  | .v vo => if vo.cls = 1 then sameB (E d) H H' else vop vo E H' = some (E d, H')
  | _ => False
def Rechks (rk : List ROper) (E : Env) (H H' : AH) : Prop := ∀ r ∈ rk, r.d.isSome = true ∧ Rechk r E H H'
def DStep (P : Program) (x : DOp) (E : Env) (H : AH) (E1 : Env) (H1 : AH) : Prop :=
 ∃ g, gwant E x.r.g = some g ∧ if g = true then
  match x.r.o with
  | .v vo => ∃ v, vop vo E H = some (v, H1) ∧ E1 = E.put x.r.d v ∧ Rechks x.rk E1 H H1
  | .call f args => ∃ v, CallT P f (vals E args) H (.ret v) H1 ∧ E1 = E.put x.r.d v ∧ Rechks x.rk E1 H H1
  | .calv c args => ∃ f as v, funOf (vals E args) (ev E c) = some (f, as) ∧ (∃ fn, P.funcs[f]? = some fn ∧ (fn.body.isSome && !(fn.name == "runtime.NumGoroutine")) = true) ∧ CallT P f as H (.ret v) H1 ∧ E1 = E.put x.r.d v ∧ Rechks x.rk E1 H H1
  | _ => False
 else E1 = E.put x.r.d (.tu []) ∧ H1 = H
def DT (P : Program) : List DOp → Env → AH → Env → AH → Prop
 | [], E, H, E', H' => E' = E ∧ H' = H
 | x :: r, E, H, E', H' => ∃ E1 H1, DStep P x E H E1 H1 ∧ DT P r E1 H1 E' H'
def orE (cl : List Nat) (o : Oper) : Nat := o.after.toList.foldl (fun s e => if Region.binds .any e then s ||| (2 ^ e.on ||| cl.getD e.on 0) else s) 0
def cmpB (cl : List Nat) (i j : Nat) : Bool := (cl.getD j 0).testBit i
def allP (n : Nat) (f : Nat → Bool) : Bool := (List.range n).all f
def rkOf (cl ord : List Nat) (l : List ROper) (q : Nat) : List ROper :=
 if (l.getD q default).act then ((List.range q).filter fun p => !(l.getD p default).act && !(l.getD p default).pure && !cmpB cl (ord.getD p 0) (ord.getD q 0)).map fun p => l.getD p default else []
def mkD (cl ord : List Nat) (l : List ROper) : List DOp := (List.range l.length).map fun q => ⟨l.getD q default, rkOf cl ord l q⟩
def pairR (cl ord : List Nat) (l : List ROper) (p q : Nat) : Bool :=
 let x := fun p => ord.getD p 0
 let r := fun p => l.getD p default
 (x p != x q) &&
  (!decide (p < q) || (!cmpB cl (x q) (x p) && (!(r p).act || cmpB cl (x p) (x q)))) &&
  (!(r p).d.any (fun d => (r q).names.contains d) || cmpB cl (x p) (x q) || cmpB cl (x q) (x p)) &&
  (!(decide (p < q) && (r q).act && !(r p).act && !(r p).pure && !cmpB cl (x p) (x q)) ||
   ((r p).d.isSome && !(r p).d.any (fun d => (r p).reads.contains d) && (List.range (q + 1)).all fun s => decide (s ≤ p) || !(r s).d.any fun d => (r p).names.contains d))
def pairOk (cl ord : List Nat) (l : List ROper) (p q : Nat) : Bool := p == q || pairR cl ord l p q
def dOk (ops : Array Oper) (cl ord : List Nat) (l : List ROper) : Bool :=
 let n := ops.size
 ord.length == n && l.length == n &&
 allP n (fun i => ord.contains i) && allP n (fun p => decide (ord.getD p 0 < n)) &&
 allP n (fun j => (cl.getD j 0 == orE cl (ops.getD j default)) && (ops.getD j default).after.toList.all fun e => !Region.binds .any e || decide (e.on < j)) &&
 allP n fun p => allP n fun q => pairOk cl ord l p q
inductive RC where
 | skip
 | reg (l : List ROper)
 | regd (l : List DOp)
 | seq (a b : RC)
 | cond (c : Opd) (a b : RC)
 | block (id : Nat) (a : RC)
 | loop (a : RC)
 | exit (id : Nat)
 | ret
inductive It where
 | c (c : RC)
 | o (l : List ROper)
 | blk (id : Nat)
 | lp (c : RC)
def preE (o : Oper) : Nat := o.after.toList.foldl (fun s e => if Region.binds .any e then s ||| 2 ^ e.on else s) 0
def findQ : List (ROper × Nat) → Nat → Nat → Bool → Option Nat
 | [], _, _, _ => none
 | x :: r, i, done, b => if !done.testBit i && (x.2 &&& done == x.2) && (b || !x.1.act) then some i else findQ r (i + 1) done b
def greedy (zs : List (ROper × Nat)) : Nat → Nat → List Nat
 | 0, _ => []
 | n + 1, done =>
  match findQ zs 0 done false with
  | some i => i :: greedy zs n (done ||| 2 ^ i)
  | none =>
   match findQ zs 0 done true with
   | some i => i :: greedy zs n (done ||| 2 ^ i)
   | none => []
def mkCl : List Oper → List Nat → List Nat
 | [], cl => cl
 | o :: r, cl => mkCl r (cl ++ [orE cl o])
def resD2 (ops : Array Oper) (cl ord : List Nat) (l : List ROper) : Option (List DOp) := if dOk ops cl ord l then some (mkD cl ord l) else none
def resD1 (ops : Array Oper) (cl ord : List Nat) (l : List ROper) : Option (List DOp) := resD2 ops cl ord (ord.map fun i => l.getD i default)
def resD (P : Program) (nt : Nat) (ops : Array Oper) : Option (List DOp) :=
 if P.follows .mixedOrders then (resOps P nt ops ops.toList).bind fun l => resD1 ops (mkCl ops.toList []) (greedy (l.zip (ops.toList.map preE)) ops.size 0) l else none
def resC (P : Program) (nt : Nat) : Code → Option RC
 | .skip => some .skip
 | .region _ ops draw => if draw then (resD P nt ops).map .regd else (resOps P nt ops ops.toList).map .reg
 | .seq a b => (resC P nt a).bind fun a => (resC P nt b).map (.seq a ·)
 | .cond c a b => (resO nt c).bind fun c => (resC P nt a).bind fun a => (resC P nt b).map (.cond c a ·)
 | .block id a => (resC P nt a).map (.block id)
 | .loop a => (resC P nt a).map .loop
 | .exit id => some (.exit id)
 | .ret => some .ret
 | _ => none
def itExit (id : Nat) : List It → Option (List It)
 | .blk i :: k => if i == id then some k else itExit id k
 | _ :: k => itExit id k
 | [] => none
def Fin := BOut → Env → AH → List ADef → Prop
def AtEnd (R : Fin) (X : List It → Env → AH → List ADef → Prop) (r : AEnd) (d : Option Nat) (l : List ROper) (k : List It) (E : Env) (H : AH) (ds : List ADef) : Prop :=
 match r with
 | .ret v => X (.o l :: k) (E.put d v) H ds
 | .pan p => R (.pan p) E H ds
def XF (P : Program) (R : Fin) : Nat → List It → Env → AH → List ADef → Prop
 | 0, _, _, _, _ => False
 | n + 1, k, E, H, ds =>
  match k with
  | [] => R .ret E H ds
  | .blk _ :: k => XF P R n k E H ds
  | .lp c :: k => XF P R n (.c c :: .lp c :: k) E H ds
  | .c .skip :: k => XF P R n k E H ds
  | .c (.reg l) :: k => XF P R n (.o l :: k) E H ds
  | .c (.regd l) :: k => ∃ E' H', DT P l E H E' H' ∧ XF P R n k E' H' ds
  | .c (.seq a b) :: k => XF P R n (.c a :: .c b :: k) E H ds
  | .c (.cond c a b) :: k => ∃ t, ev E c = .bo t ∧ XF P R n (.c (bif t then a else b) :: k) E H ds
  | .c (.block id a) :: k => XF P R n (.c a :: .blk id :: k) E H ds
  | .c (.loop a) :: k => XF P R n (.c a :: .lp a :: k) E H ds
  | .c (.exit id) :: k => ∃ k', itExit id k = some k' ∧ XF P R n k' E H ds
  | .c .ret :: _ => R .ret E H ds
  | .o [] :: k => XF P R n k E H ds
  | .o (o :: l) :: k => ∃ g, gwant E o.g = some g ∧ if g = true then
    match o.o with
    | .v vo => ∃ v H', vop vo E H = some (v, H') ∧ XF P R n (.o l :: k) (E.put o.d v) H' ds
    | .call f args => ∃ r H', CallT P f (vals E args) H r H' ∧ AtEnd R (XF P R n) r o.d l k E H' ds
    | .calv x args => ∃ f as, funOf (vals E args) (ev E x) = some (f, as) ∧ (∃ fn, P.funcs[f]? = some fn ∧ (fn.body.isSome && !(fn.name == "runtime.NumGoroutine")) = true) ∧ ∃ r H', CallT P f as H r H' ∧ AtEnd R (XF P R n) r o.d l k E H' ds
    | .pan x => ∃ t v, ev E x = .fc t v ∧ R (.pan [⟨.fc t v, false⟩]) E H ds
    | .dfr x args => ∃ f as, funOf (vals E args) (ev E x) = some (f, as) ∧ XF P R n (.o l :: k) (E.put o.d (.tu [])) H (⟨f, as⟩ :: ds)
   else XF P R n (.o l :: k) (E.put o.d (.tu [])) H ds
def X (P : Program) (R : Fin) (k : List It) (E : Env) (H : AH) (ds : List ADef) : Prop := ∃ n, XF P R n k E H ds
end Go.AX
end
section
namespace Go.AX
open Go
inductive F2 {α β : Type} (R : α → β → Prop) : List α → List β → Prop where
 | nil : F2 R [] []
 | cons {a : α} {b : β} {l : List α} {m : List β} : R a b → F2 R l m → F2 R (a :: l) (b :: m)
inductive Cor (P : Program) (nt : Nat) : List It → List Item → Prop where
 | nil : Cor P nt [] []
 | c {c : Code} {rc : RC} {k : List It} {t : List Item} : resC P nt c = some rc → Cor P nt k t → Cor P nt (.c rc :: k) (.code c :: t)
 | o {ops : Array Oper} {ix : List Nat} {l : List ROper} {k : List It} {t : List Item} : F2 (fun i ro => ∃ o, ops[i]? = some o ∧ resR P nt ops o = some ro) ix l → Cor P nt k t → Cor P nt (.o l :: k) (.inRegion ops ix :: t)
 | blk {id : Nat} {k : List It} {t : List Item} : Cor P nt k t → Cor P nt (.blk id :: k) (.inBlock id :: t)
 | lp {c : Code} {rc : RC} {k : List It} {t : List Item} : resC P nt c = some rc → Cor P nt k t → Cor P nt (.lp rc :: k) (.inLoop c :: t)
theorem Cor.exit {P : Program} {nt id : Nat} {k k' : List It} {t : List Item} (h : Cor P nt k t) (he : itExit id k = some k') : ∃ t', exitTo id t = some t' ∧ Cor P nt k' t' := by
 induction h with
 | nil => simp [itExit] at he
 | c hc hk ih => simp only [itExit] at he; simp only [exitTo]; exact ih he
 | o hc hk ih => simp only [itExit] at he; simp only [exitTo]; exact ih he
 | lp hc hk ih => simp only [itExit] at he; simp only [exitTo]; exact ih he
 | @blk i k t hk ih =>
  simp only [itExit] at he
  simp only [exitTo]
  split at he
  ·rename_i hb
   simp only [Option.some.injEq] at he; subst he
   exact ⟨t, by rw [if_pos hb], hk⟩
  ·rename_i hb
   obtain ⟨t', h1, h2⟩ := ih he
   exact ⟨t', by rw [if_neg hb]; exact h1, h2⟩
def DRel (D : Nat → Prop) (j : Inj) (ds : List ADef) (dd : List Deferred) : Prop :=
 F2 (fun (d : ADef) (e : Deferred) => AV.okL D d.args ∧ ∃ cap args, e = { target := .fn (.func d.f) cap, args := args } ∧ args ++ cap = (AV.conL j d.args).toArray) ds dd
theorem DRel.mono {D D' : Nat → Prop} {j j' : Inj} {ds : List ADef} {dd : List Deferred} (h : DRel D j ds dd) (hD : ∀ b, D b → D' b) (hj : ∀ b, D b → j' b = j b) : DRel D' j' ds dd := by
 induction h with
 | nil => exact .nil
 | cons h1 _ ih =>
  obtain ⟨ho, cap, args, he, hc⟩ := h1
  exact .cons ⟨okL_mono hD _ ho, cap, args, he, by rw [hc, conL_congr hj _ ho]⟩ ih
theorem Rel.mono {nt : Nat} {D D' : Nat → Prop} {j j' : Inj} {E : Env} {tm : Array Value} (R : Rel nt D j E tm) (hD : ∀ b, D b → D' b) (hj : ∀ b, D b → j' b = j b) : Rel nt D' j' E tm :=
 ⟨R.size, fun t ht => by rw [R.get t ht, con_congr hj _ (R.ok t ht)], fun t ht => ok_mono hD _ (R.ok t ht)⟩
theorem Rel.put {nt : Nat} {D : Nat → Prop} {j : Inj} {E : Env} {a : Act} (R : Rel nt D j E a.tmps) {d : Option Nat} {v : AV} (hd : dstOk nt d = true) (hv : v.ok D) : Rel nt D j (E.put d v) (a.put d (v.con j)).tmps := by
 cases d with
 | none => exact R
 | some d =>
  simp only [dstOk, decide_eq_true_eq] at hd
  refine ⟨by simp [Act.put, R.size], fun t ht => ?_, fun t ht => ?_⟩
  ·have hr := R.get t ht
   have hs := R.size
   simp only [Act.put, Env.put, Env.st]
   by_cases he : t = d
   ·subst he
    simp [Array.getD, hs, hd]
   ·rw [if_neg he]
    simp only [Array.getD_eq_getD_getElem?] at hr ⊢
    rw [Array.getElem?_setIfInBounds_ne (fun e => he e.symm)]
    exact hr
  ·simp only [Env.put, Env.st]
   split
   ·exact hv
   ·exact R.ok t ht
theorem undef_con {j : Inj} : (AV.tu []).con j = undef := rfl
def Reach (P : Program) (m : Machine) (b : Frame) (cs : List Frame) (out : BOut) (j' : Inj) (a' : Act) (w' : World) : Prop :=
 match out with
 | .ret => ∃ t', Steps P m (lone { b.at a' t' with mode := .returning } cs w')
 | .pan l => ∃ t', Steps P m (lone { b.at a' t' with mode := .panicking (l.map (PE.con j')) } cs w')
def BOut.ok (D : Nat → Prop) : BOut → Prop
 | .ret => True
 | .pan l => ∀ p ∈ l, p.v.ok D
def RunsTo (P : Program) (nt : Nat) (k : List It) (E : Env) (H : AH) (ds : List ADef) (out : BOut) (E' : Env) (H' : AH) (ds' : List ADef) : Prop :=
 ∀ base D j w (a : Act) (b : Frame) cs t, Cor P nt k t → Sim base D j H w → Rel nt D j E a.tmps → DRel D j ds a.defers →
  ∃ a' w' j', Post base D j H w H' w' j' ∧ Rel nt (Dnew D H H') j' E' a'.tmps ∧ DRel (Dnew D H H') j' ds' a'.defers ∧ out.ok (Dnew D H H') ∧ Reach P (lone (b.at a t) cs w) b cs out j' a' w'
theorem Reach.of_steps {P : Program} {m m1 : Machine} {b : Frame} {cs : List Frame} {out : BOut} {j' : Inj} {a' : Act} {w' : World} (h : Steps P m m1) (r : Reach P m1 b cs out j' a' w') : Reach P m b cs out j' a' w' := by
 cases out with
 | ret => obtain ⟨t, ht⟩ := r; exact ⟨t, h.trans ht⟩
 | pan l => obtain ⟨t, ht⟩ := r; exact ⟨t, h.trans ht⟩
theorem dnew_trans {D : Nat → Prop} {H H1 H2 : AH} (h1 : H.nx ≤ H1.nx) (h2 : H1.nx ≤ H2.nx) (b : Nat) : Dnew (Dnew D H H1) H1 H2 b ↔ Dnew D H H2 b := by
 unfold Dnew
 constructor
 ·rintro ((h | ⟨h3, h4⟩) | ⟨h3, h4⟩)
  ·exact .inl h
  ·exact .inr ⟨h3, by omega⟩
  ·exact .inr ⟨by omega, h4⟩
 ·rintro (h | ⟨h3, h4⟩)
  ·exact .inl (.inl h)
  ·rcases Nat.lt_or_ge b H1.nx with h5 | h5
   ·exact .inl (.inr ⟨h3, h5⟩)
   ·exact .inr ⟨h5, h4⟩
theorem dnew_eq {D : Nat → Prop} {H H1 H2 : AH} (h1 : H.nx ≤ H1.nx) (h2 : H1.nx ≤ H2.nx) : Dnew (Dnew D H H1) H1 H2 = Dnew D H H2 := funext fun b => propext (dnew_trans h1 h2 b)
section
variable {P : Program} {nt : Nat}
theorem RunsTo.step {k k1 : List It} {E : Env} {H : AH} {ds ds' : List ADef} {out : BOut} {E' : Env} {H' : AH} (h : RunsTo P nt k1 E H ds out E' H' ds')
  (hs : ∀ (a : Act) (b : Frame) cs w t D j, Cor P nt k t → Rel nt D j E a.tmps → ∃ t1, Cor P nt k1 t1 ∧ step P (lone (b.at a t) cs w) = .next (lone (b.at a t1) cs w)) : RunsTo P nt k E H ds out E' H' ds' := by
 intro base D j w a b cs t hc S Rl DR
 obtain ⟨t1, hc1, hst⟩ := hs a b cs w t D j hc Rl
 obtain ⟨a', w', j', p1, p2, p3, p4, p5⟩ := h base D j w a b cs t1 hc1 S Rl DR
 exact ⟨a', w', j', p1, p2, p3, p4, .of_steps (.one hst) p5⟩
theorem RunsTo.after {k k1 : List It} {E E1 : Env} {H H1 : AH} {ds ds1 ds' : List ADef} {out : BOut} {E' : Env} {H' : AH} (h : RunsTo P nt k1 E1 H1 ds1 out E' H' ds')
  (hs : ∀ base D j w (a : Act) (b : Frame) cs t, Cor P nt k t → Sim base D j H w → Rel nt D j E a.tmps → DRel D j ds a.defers →
   ∃ a1 w1 j1 t1, Cor P nt k1 t1 ∧ Post base D j H w H1 w1 j1 ∧ Rel nt (Dnew D H H1) j1 E1 a1.tmps ∧ DRel (Dnew D H H1) j1 ds1 a1.defers ∧ Steps P (lone (b.at a t) cs w) (lone (b.at a1 t1) cs w1)) : RunsTo P nt k E H ds out E' H' ds' := by
 intro base D j w a b cs t hc S Rl DR
 obtain ⟨a1, w1, j1, t1, hc1, q1, q2, q3, q4⟩ := hs base D j w a b cs t hc S Rl DR
 obtain ⟨a', w', j', p1, p2, p3, p4, p5⟩ := h base (Dnew D H H1) j1 w1 a1 b cs t1 hc1 q1.sim q2 q3
 have e := dnew_eq (D := D) q1.evo.nx p1.evo.nx
 rw [e] at p2 p3 p4
 exact ⟨a', w', j', q1.trans p1 S.lt, p2, p3, p4, .of_steps q4 p5⟩
theorem step_value {b : Frame} {a : Act} {k : List Item} {cs : List Frame} {w w' : World} {ops : Array Oper} {i : Nat} {rest : List Nat} {o : Oper} {v : Value} (ho : ops[i]? = some o) (hw : Region.wanted o (yielded ops a.tmps) = true)
  (hr : (execOp a.eval o).run P w = .ok (.value v) w') : step P (lone (b.at a (.inRegion ops (i :: rest) :: k)) cs w) = .next (lone (b.at (a.put o.dst v) (.inRegion ops rest :: k)) cs w') := by
 have hg := stepG_op (P := P) (b := b) (k := k) (cs := cs) (w := w) (rest := rest) ho hw
 have hfin : (b.at a (.inRegion ops (i :: rest) :: k)).finish v = b.at (a.put o.dst v) (.inRegion ops rest :: k) := by rw [Frame.finish_at, ho]; rfl
 refine step_lone_go ?_
 rw [hg, ← hfin]; simp [stepG.apply, hr]
theorem step_skipv {b : Frame} {a : Act} {k : List Item} {cs : List Frame} {w w' : World} {ops : Array Oper} {i : Nat} {rest : List Nat} {o : Oper} (ho : ops[i]? = some o) (hw : Region.wanted o (yielded ops a.tmps) = true)
  (hr : (execOp a.eval o).run P w = .ok .skip w') : step P (lone (b.at a (.inRegion ops (i :: rest) :: k)) cs w) = .next (lone (b.at (a.put o.dst undef) (.inRegion ops rest :: k)) cs w') := by
 have hg := stepG_op (P := P) (b := b) (k := k) (cs := cs) (w := w) (rest := rest) ho hw
 have hfin : (b.at a (.inRegion ops (i :: rest) :: k)).finish undef = b.at (a.put o.dst undef) (.inRegion ops rest :: k) := by rw [Frame.finish_at, ho]; rfl
 refine step_lone_go ?_
 rw [hg, ← hfin]; simp [stepG.apply, hr]
theorem step_unwanted {b : Frame} {a : Act} {k : List Item} {cs : List Frame} {w : World} {ops : Array Oper} {i : Nat} {rest : List Nat} {o : Oper} (ho : ops[i]? = some o) (hw : Region.wanted o (yielded ops a.tmps) = false) :
  step P (lone (b.at a (.inRegion ops (i :: rest) :: k)) cs w) = .next (lone (b.at (a.put o.dst undef) (.inRegion ops rest :: k)) cs w) := by
 have := step_op_skip (P := P) (b := b) (a := a) (k := k) (cs := cs) (w := w) (ops := ops) (i := i) (rest := rest) (by simp [ho, hw])
 simpa [ho] using this
theorem step_panic {b : Frame} {a : Act} {k : List Item} {cs : List Frame} {w w' : World} {ops : Array Oper} {i : Nat} {rest : List Nat} {o : Oper} {v : Value} (ho : ops[i]? = some o) (hw : Region.wanted o (yielded ops a.tmps) = true)
  (hr : (execOp a.eval o).run P w = .halt (.panic v) w') : step P (lone (b.at a (.inRegion ops (i :: rest) :: k)) cs w) = .next (lone { b.at a (.inRegion ops (i :: rest) :: k) with mode := .panicking [{ v, recovered := false }] } cs w') := by
 have hg := stepG_op (P := P) (b := b) (k := k) (cs := cs) (w := w) (rest := rest) ho hw
 refine step_lone_go ?_
 rw [hg, ← Frame.raise_at]; simp [stepG.apply, hr]
theorem step_defer' {b : Frame} {a : Act} {k : List Item} {cs : List Frame} {w w' : World} {ops : Array Oper} {i : Nat} {rest : List Nat} {o : Oper} {d : Deferred} (ho : ops[i]? = some o) (hw : Region.wanted o (yielded ops a.tmps) = true)
  (hr : (execOp a.eval o).run P w = .ok (.defer d) w') : step P (lone (b.at a (.inRegion ops (i :: rest) :: k)) cs w) = .next (lone (b.at ({ a with defers := d :: a.defers }.put o.dst undef) (.inRegion ops rest :: k)) cs w') := by
 have hg := stepG_op (P := P) (b := b) (k := k) (cs := cs) (w := w) (rest := rest) ho hw
 have hfin : ({ b.at a (.inRegion ops (i :: rest) :: k) with defers := d :: a.defers } : Frame).finish undef = b.at ({ a with defers := d :: a.defers }.put o.dst undef) (.inRegion ops rest :: k) := by
  have := Frame.finish_at b { a with defers := d :: a.defers } ops i rest k undef
  rw [ho] at this; exact this
 refine step_lone_go ?_
 rw [hg]; simp only [stepG.apply, Sem.runT_eq, hr, GStep.bare_after]
 exact congrArg (fun fr => GStep.go { frame := fr, callers := cs, status := .running, dying := none } w') hfin
theorem step_call {b : Frame} {a : Act} {k : List Item} {cs : List Frame} {w w1 : World} {ops : Array Oper} {i : Nat} {rest : List Nat} {o : Oper} {f : FuncId} {args : Array Value} {Q : Ending → World → Prop} (ho : ops[i]? = some o) (hw : Region.wanted o (yielded ops a.tmps) = true)
  (hr : (execOp a.eval o).run P w = .ok (.enter f args) w1) (hc : Calls P f args w1 Q) (hno : ∀ w', ¬ Q .outgrown w') :
  (∃ v w', Q (.returned v) w' ∧ Steps P (lone (b.at a (.inRegion ops (i :: rest) :: k)) cs w) (lone (b.at (a.put o.dst v) (.inRegion ops rest :: k)) cs w')) ∨
  (∃ ch w', Q (.panicked ch) w' ∧ Steps P (lone (b.at a (.inRegion ops (i :: rest) :: k)) cs w) (lone { b.at a (.inRegion ops (i :: rest) :: k) with mode := .panicking ch } cs w')) := by
 have hg := stepG_op (P := P) (b := b) (k := k) (cs := cs) (w := w) (rest := rest) ho hw
 obtain ⟨e, w', fr, hR, hsteps, _, hleave⟩ := hc (b.at a (.inRegion ops (i :: rest) :: k) :: cs)
 have henter : step P (lone (b.at a (.inRegion ops (i :: rest) :: k)) cs w) = .next (lone (Frame.enter P f args .normal) (b.at a (.inRegion ops (i :: rest) :: k) :: cs) w1) :=
  step_lone_go (by rw [hg]; simp [stepG.apply, hr, Frame.at])
 cases e with
 | returned v =>
  refine .inl ⟨v, w', hR, .head henter (Steps.trans hsteps (.one ?_))⟩
  have hfin : (b.at a (.inRegion ops (i :: rest) :: k)).finish v = b.at (a.put o.dst v) (.inRegion ops rest :: k) := by rw [Frame.finish_at, ho]; rfl
  rw [← hfin]; exact step_leave_returned hleave
 | panicked ch =>
  refine .inr ⟨ch, w', hR, .head henter (Steps.trans hsteps (.one ?_))⟩
  rw [← Frame.raise_at]; exact step_leave_panicked hleave
 | outgrown => exact absurd hR (hno w')
end
end Go.AX
end
section
namespace Go.AX
open Go
section
variable {P : Program} {nt : Nat}
theorem wanted_run {D : Nat → Prop} {j : Inj} {E : Env} {a : Act} (R : Rel nt D j E a.tmps) {ops : Array Oper} {o : Oper} {g : Option (Nat × Bool)} {c : Bool} (hg : resG ops o.guard = some g) (hd : dstOk nt (g.map (·.1)) = true) (hw : gwant E g = some c) :
  Region.wanted o (yielded ops a.tmps) = c := by
 unfold Region.wanted
 cases ho : o.guard with
 | none =>
  rw [ho] at hg
  simp only [resG, Option.some.injEq] at hg; subst hg
  simp only [gwant, Option.some.injEq] at hw
  exact hw
 | some ib =>
  obtain ⟨i, b⟩ := ib
  rw [ho] at hg
  simp only [resG, Option.map_eq_some_iff] at hg
  obtain ⟨d, hdst, rfl⟩ := hg
  simp only [Option.map_some, dstOk, decide_eq_true_eq] at hd
  simp only [gwant] at hw
  split at hw
  ·rename_i c' he
   simp only [Option.some.injEq] at hw; subst hw
   have ht := R.get d hd
   rw [he] at ht
   have hs := R.size
   have hy : yielded ops a.tmps i = some c' := by
    unfold yielded
    rw [hdst]
    have : a.tmps[d]? = some (.bool c') := by
     have hlt : d < a.tmps.size := by omega
     simp [Array.getD, hlt, AV.con] at ht
     simp [hlt, ht]
    simp [this]
   simp only [hy]
   cases c' <;> cases b <;> rfl
  ·rename_i he
   simp only [Option.some.injEq] at hw; subst hw
   have ht := R.get d hd
   rw [he] at ht
   have hs := R.size
   have hy : yielded ops a.tmps i = none := by
    unfold yielded
    rw [hdst]
    have : a.tmps[d]? = some (.tuple #[]) := by
     have hlt : d < a.tmps.size := by omega
     simp [Array.getD, hlt, AV.con, AV.conL] at ht
     simp [hlt, ht]
    simp [this]
   simp only [hy]
   rfl
  ·cases hw
theorem resL_arr {D : Nat → Prop} {j : Inj} {E : Env} {a : Act} (R : Rel nt D j E a.tmps) {xs : Array Operand} {ys : List Opd} (h : resL nt xs.toList = some ys) : xs.map a.eval = (AV.conL j (vals E ys)).toArray ∧ AV.okL D (vals E ys) := by
 obtain ⟨r1, r2⟩ := resL_run R h
 refine ⟨?_, r2⟩
 apply Array.ext'
 rw [Array.toList_map, r1]; rfl
theorem callFunc_run {f : FuncId} {args : Array Value} {fn : Func} {w : World} (hf : P.funcs[f]? = some fn) (hb : (fn.body.isSome && !(fn.name == "runtime.NumGoroutine")) = true) : (callFunc f args).run P w = .ok (.enter f args) w := by
 simp only [Bool.and_eq_true, Bool.not_eq_true'] at hb
 obtain ⟨h1, h2⟩ := hb
 have h3 : fn.body ≠ none := by cases h : fn.body <;> simp [h] at h1 ⊢
 have h4 : fn.name ≠ "runtime.NumGoroutine" := by simpa using h2
 simp [callFunc, hf, h4, h3]
end
end Go.AX
end
section
namespace Go.AX
open Go
section
variable {P : Program} {nt : Nat} {D : Nat → Prop} {j : Inj} {a : Act} {o : Oper} {E : Env}
theorem alo_run {w : World} {H H' : AH} {v : AV} (R : Rel nt D j E a.tmps) {vo : VOp} (hc : vo.cls = 1) (hr : resV P nt o = some vo) (h : vop vo E H = some (v, H')) :
  ∃ l t, H' = H.al l ∧ AV.okL D l ∧ AV.scL l = true ∧
   ((v = .pt H.nx 0 ∧ (execOp a.eval o).run P w = .ok (.value (.pointer (some ⟨w.heap.size, 0, none⟩))) { w with heap := w.heap.push (.cells (AV.conL j l).toArray t (0, 0)) }) ∨
    (∃ n c, v = .sl H.nx 0 n c ∧ (execOp a.eval o).run P w = .ok (.value (.slice (some ⟨w.heap.size, 0, none⟩) n c)) { w with heap := w.heap.push (.cells (AV.conL j l).toArray t (0, 0)) })) := by
 have nr : ∀ (t : TypeId) (l : List AV), (newRow t (AV.conL j l).toArray).run P w = .ok ⟨w.heap.size, 0, none⟩ { w with heap := w.heap.push (.cells (AV.conL j l).toArray t (0, 0)) } := fun t l => by simp [newRow]
 unfold resV at hr
 split at hr
 all_goals first
  | (obtain ⟨x', hx, rfl⟩ := Option.map_eq_some_iff.1 hr; exact absurd hc (show ¬ ((0 : Nat) = 1) by decide))
  | skip
 ·simp only [Option.bind_eq_some_iff, Option.map_eq_some_iff] at hr
  obtain ⟨_, _, _, _, _, _, rfl⟩ := hr
  exact absurd hc (show ¬ ((0 : Nat) = 1) by decide)
 ·rename_i e ho
  obtain ⟨z, hz, rfl⟩ := Option.map_eq_some_iff.1 hr
  simp only [vop, Option.some.injEq, Prod.mk.injEq] at h; obtain ⟨rfl, rfl⟩ := h
  obtain ⟨zv, hzv, hcc, h1, h2⟩ := run_zero' hz j D w
  refine ⟨z, e, rfl, h1, h2, .inl ⟨rfl, ?_⟩⟩
  simp [execOp, ho, Instr.alloc, hzv, newVar, hcc, nr e z]
 ·rename_i e x ho
  obtain ⟨x', hx, rfl⟩ := Option.map_eq_some_iff.1 hr
  obtain ⟨l, hl, h⟩ := Option.map_eq_some_iff.1 h
  simp only [Prod.mk.injEq] at h; obtain ⟨rfl, rfl⟩ := h
  obtain ⟨x1, x2⟩ := R.ev hx
  obtain ⟨c1, c2, c3⟩ := cl_con (j := j) hl x2
  refine ⟨l, e, rfl, c2, c3, .inl ⟨rfl, ?_⟩⟩
  simp [execOp, ho, Instr.box, newVar, x1, c1, nr e l]
 ·simp only [Option.bind_eq_some_iff, Option.map_eq_some_iff] at hr
  obtain ⟨_, _, _, _, _, _, rfl⟩ := hr
  exact absurd hc (show ¬ ((0 : Nat) = 1) by decide)
 ·rename_i t n ps ho
  split at hr
  ·rename_i e hu
   simp only [Option.bind_eq_some_iff] at hr
   obtain ⟨s, hs, hr⟩ := hr
   split at hr
   ·rename_i hns
    simp only [Option.bind_eq_some_iff] at hr
    obtain ⟨z, hz, hr⟩ := hr
    split at hr
    ·rename_i hzl
     obtain ⟨q, hq, rfl⟩ := Option.map_eq_some_iff.1 hr
     obtain ⟨l, hl, h⟩ := Option.map_eq_some_iff.1 h
     simp only [Prod.mk.injEq] at h; obtain ⟨rfl, rfl⟩ := h
     obtain ⟨hns, hs0⟩ := hns
     obtain ⟨zv, hzv, hcc, h1, h2⟩ := run_zero' hz j D w
     obtain ⟨f1, f2, f3, f4⟩ := vfill_run R (pl := fun i => some (i * s, s)) (pl' := fun i => some (i * s, s)) (fun i => rfl) ps.toList q (List.replicate n z).flatten l hq hl (okL_flat h1) (scL_flat h2)
     refine ⟨l, e, rfl, f2, f3, .inr ⟨n, n, rfl, ?_⟩⟩
     have hm : (ps.map fun (x : Nat × Operand) => (x.1, a.eval x.2)).toList = ps.toList.map fun x => (x.1, a.eval x.2) := by simp
     have hmade := flat_made j z n
     rw [hzl] at hmade
     simp only [madeCells] at hmade
     have r := nr e l
     by_cases h0 : n * s = 0
     ·have hn : n = 0 := by
       rcases Nat.mul_eq_zero.1 h0 with h | h <;> omega
      subst hn
      simp only [List.replicate_zero, List.flatten_nil] at f1
      simp only [AV.conL] at f1
      simp only [execOp, ho, Instr.buildSlice, Sem.run_bind, run_underlying hu, Result.andThen_ok, run_sizeOf' hs, h0]
      have hr0 : (Array.range 0).map (fun (x : Nat) => (default : Value)) = #[] := by simp [Array.range_zero']
      simp [hr0, hm, f1, r]
     ·simp only [execOp, ho, Instr.buildSlice, Sem.run_bind, run_underlying hu, Result.andThen_ok, run_sizeOf' hs]
      rw [if_neg (by omega), if_neg h0]
      simp only [Sem.run_bind, hzv, Result.andThen_ok, Sem.run_pure, hcc]
      rw [show (Array.range (n * s)).map (fun (x : Nat) => (AV.conL j z).toArray[x % (AV.conL j z).toArray.size]!) = (AV.conL j (List.replicate n z).flatten).toArray from hmade]
      simp [hm, f1, r]
    ·cases hr
   ·cases hr
  ·cases hr
 ·simp only [Option.bind_eq_some_iff, Option.map_eq_some_iff] at hr
  obtain ⟨ag, _, _, _, _, _, rfl⟩ := hr
  cases ag <;> exact absurd hc (show ¬ ((0 : Nat) = 1) by decide)
 ·simp only [Option.bind_eq_some_iff, Option.map_eq_some_iff] at hr
  obtain ⟨_, _, _, _, _, _, rfl⟩ := hr
  exact absurd hc (show ¬ ((2 : Nat) = 1) by decide)
 ·simp only [Option.bind_eq_some_iff, Option.map_eq_some_iff] at hr
  obtain ⟨_, _, _, _, rfl⟩ := hr
  exact absurd hc (show ¬ ((0 : Nat) = 1) by decide)
 ·split at hr
  ·obtain ⟨x', hx, rfl⟩ := Option.map_eq_some_iff.1 hr; exact absurd hc (show ¬ ((0 : Nat) = 1) by decide)
  ·split at hr
   ·obtain ⟨x', hx, rfl⟩ := Option.map_eq_some_iff.1 hr; exact absurd hc (show ¬ ((0 : Nat) = 1) by decide)
   ·cases hr
  ·split at hr
   ·obtain ⟨x', hx, rfl⟩ := Option.map_eq_some_iff.1 hr; exact absurd hc (show ¬ ((0 : Nat) = 1) by decide)
   ·cases hr
  ·split at hr
   ·obtain ⟨x', hx, rfl⟩ := Option.map_eq_some_iff.1 hr; exact absurd hc (show ¬ ((2 : Nat) = 1) by decide)
   ·cases hr
  ·cases hr
 ·split at hr
  ·cases hr
  ·cases hr
  ·obtain ⟨x', hx, rfl⟩ := Option.map_eq_some_iff.1 hr; exact absurd hc (show ¬ ((0 : Nat) = 1) by decide)
 ·simp only [Option.bind_eq_some_iff, Option.map_eq_some_iff] at hr
  obtain ⟨_, _, _, _, rfl⟩ := hr
  exact absurd hc (show ¬ ((0 : Nat) = 1) by decide)
 ·rename_i t l c ho
  split at hr
  ·rename_i e hu
   simp only [Option.bind_eq_some_iff] at hr
   obtain ⟨i, hi, z, hz, hr⟩ := hr
   split at hr
   ·rename_i hzl
    simp only [Option.bind_eq_some_iff, Option.map_eq_some_iff] at hr
    obtain ⟨l', hl, c', hc', rfl⟩ := hr
    obtain ⟨l1, l2⟩ := R.ev hl
    obtain ⟨c1, c2⟩ := R.ev hc'
    obtain ⟨i', zv, hi', hzv, hzc, z1, z2⟩ := zerT_built hz j D
    rw [hi] at hi'
    obtain rfl := Option.some.inj hi'
    simp only [vop] at h
    generalize ev E l' = u at *
    generalize ev E c' = q at *
    cases u <;> cases q <;> simp only [vmks, reduceCtorEq] at h
    rename_i kl lv kc cv
    split at h
    ·rename_i hb
     simp only [Option.some.injEq, Prod.mk.injEq] at h
     obtain ⟨rfl, rfl⟩ := h
     have r := run_make (P := P) w t e i zv hu hi hzv kl kc lv cv hb.1 hb.2.1 (by omega) hb.2.2.1
     have hmade := flat_made j z cv.toNat
     rw [hzl] at hmade
     rw [hzc, hmade] at r
     refine ⟨_, e, rfl, okL_flat z1, scL_flat z2, .inr ⟨_, _, rfl, ?_⟩⟩
     simp only [execOp, ho, l1, c1, AV.con, Sem.run_bind, r, Result.andThen_ok, Sem.run_pure]
     rfl
    ·cases h
   ·cases hr
  ·cases hr
 ·split at hr
  ·simp only [Option.bind_eq_some_iff] at hr
   obtain ⟨_, _, _, _, _, _, _, _, _, _, hr⟩ := hr
   split at hr
   ·cases hr
   ·simp only [Option.some.injEq] at hr; subst hr; exact absurd hc (show ¬ ((0 : Nat) = 1) by decide)
  ·split at hr
   ·cases hr
   ·simp only [Option.bind_eq_some_iff, Option.map_eq_some_iff] at hr
    obtain ⟨_, _, _, _, _, _, rfl⟩ := hr
    exact absurd hc (show ¬ ((0 : Nat) = 1) by decide)
  ·simp only [Option.bind_eq_some_iff] at hr
   obtain ⟨_, _, _, _, _, _, _, _, _, _, hr⟩ := hr
   split at hr
   ·cases hr
   ·simp only [Option.some.injEq] at hr; subst hr; exact absurd hc (show ¬ ((0 : Nat) = 1) by decide)
  ·cases hr
 ·simp only [Option.bind_eq_some_iff] at hr
  obtain ⟨f, hf, s, hs, hr⟩ := hr
  split at hr
  ·cases hr
  ·obtain ⟨x', hx, rfl⟩ := Option.map_eq_some_iff.1 hr; exact absurd hc (show ¬ ((0 : Nat) = 1) by decide)
 ·simp only [Option.bind_eq_some_iff, Option.map_eq_some_iff] at hr
  obtain ⟨_, _, _, _, _, _, _, _, rfl⟩ := hr
  exact absurd hc (show ¬ ((0 : Nat) = 1) by decide)
 ·split at hr
  ·simp only [Option.bind_eq_some_iff, Option.map_eq_some_iff] at hr
   obtain ⟨_, _, _, _, _, _, rfl⟩ := hr
   exact absurd hc (show ¬ ((0 : Nat) = 1) by decide)
  ·simp only [Option.bind_eq_some_iff, Option.map_eq_some_iff] at hr
   obtain ⟨_, _, _, _, _, _, rfl⟩ := hr
   exact absurd hc (show ¬ ((0 : Nat) = 1) by decide)
  ·cases hr
 ·split at hr
  ·simp only [Option.bind_eq_some_iff, Option.map_eq_some_iff] at hr
   obtain ⟨_, _, _, _, _, _, _, _, rfl⟩ := hr
   exact absurd hc (show ¬ ((0 : Nat) = 1) by decide)
  ·simp only [Option.bind_eq_some_iff, Option.map_eq_some_iff] at hr
   obtain ⟨_, _, _, _, rfl⟩ := hr
   exact absurd hc (show ¬ ((0 : Nat) = 1) by decide)
  ·cases hr
 ·split at hr
  ·cases hr
  ·cases hr
  ·split at hr
   ·simp only [Option.bind_eq_some_iff, Option.map_eq_some_iff] at hr
    obtain ⟨_, _, _, _, rfl⟩ := hr
    exact absurd hc (show ¬ ((0 : Nat) = 1) by decide)
   ·cases hr
 ·split at hr
  ·split at hr
   ·simp only [Option.some.injEq] at hr; subst hr; exact absurd hc (show ¬ ((2 : Nat) = 1) by decide)
   ·cases hr
  ·cases hr
 ·simp only [Option.bind_eq_some_iff, Option.map_eq_some_iff] at hr
  obtain ⟨_, _, _, _, _, _, rfl⟩ := hr
  exact absurd hc (show ¬ ((0 : Nat) = 1) by decide)
 ·simp only [Option.bind_eq_some_iff, Option.map_eq_some_iff] at hr
  obtain ⟨_, _, _, _, _, _, rfl⟩ := hr
  exact absurd hc (show ¬ ((2 : Nat) = 1) by decide)
 ·simp only [Option.bind_eq_some_iff, Option.map_eq_some_iff] at hr
  obtain ⟨_, _, _, _, _, _, rfl⟩ := hr
  exact absurd hc (show ¬ ((2 : Nat) = 1) by decide)
 ·simp only [Option.bind_eq_some_iff, Option.map_eq_some_iff] at hr
  obtain ⟨_, _, _, _, _, _, _, _, rfl⟩ := hr
  exact absurd hc (show ¬ ((2 : Nat) = 1) by decide)
 ·exfalso
  rename_i c ho
  have hcls : vo.cls = 0 ∨ vo.cls = 2 := by
   unfold resCall at hr
   split at hr
   ·split at hr
    ·split at hr
     ·obtain ⟨x', hx, rfl⟩ := Option.map_eq_some_iff.1 hr; exact .inl rfl
     ·obtain ⟨x', hx, rfl⟩ := Option.map_eq_some_iff.1 hr; exact .inl rfl
     ·obtain ⟨x', hx, rfl⟩ := Option.map_eq_some_iff.1 hr; exact .inl rfl
     ·simp only [Option.some.injEq] at hr; subst hr; exact .inl rfl
     ·split at hr
      ·simp only [Option.some.injEq] at hr; subst hr; exact .inl rfl
      ·cases hr
     ·cases hr
    ·cases hr
   ·split at hr
    ·split at hr
     ·obtain ⟨x', hx, rfl⟩ := Option.map_eq_some_iff.1 hr; exact .inl rfl
     ·cases hr
    ·cases hr
   ·obtain ⟨x', hx, rfl⟩ := Option.map_eq_some_iff.1 hr; exact .inl rfl
   ·obtain ⟨x', hx, rfl⟩ := Option.map_eq_some_iff.1 hr; exact .inl rfl
   ·split at hr
    ·split at hr
     ·simp only [Option.bind_eq_some_iff] at hr
      obtain ⟨i, hi, hr⟩ := hr
      split at hr
      ·simp only [Option.bind_eq_some_iff, Option.map_eq_some_iff] at hr
       obtain ⟨_, _, _, _, rfl⟩ := hr; exact .inr rfl
      ·cases hr
     ·simp only [Option.bind_eq_some_iff] at hr
      obtain ⟨i, hi, z, hz, hr⟩ := hr
      split at hr
      ·simp only [Option.bind_eq_some_iff, Option.map_eq_some_iff] at hr
       obtain ⟨_, _, _, _, rfl⟩ := hr; exact .inr rfl
      ·cases hr
     ·cases hr
    ·cases hr
   ·split at hr
    ·split at hr
     ·simp only [Option.bind_eq_some_iff] at hr
      obtain ⟨i, hi, hr⟩ := hr
      split at hr
      ·simp only [Option.bind_eq_some_iff, Option.map_eq_some_iff] at hr
       obtain ⟨_, _, _, _, rfl⟩ := hr; exact .inr rfl
      ·cases hr
     ·cases hr
    ·cases hr
   ·cases hr
  omega
 ·cases hr
end
end Go.AX
end
section
namespace Go.AX
open Go
theorem opdT_mem {n : Nat} : ∀ {l : List Opd}, .t n ∈ l → n ∈ opdT l
 | x :: r, h => by
  rcases List.mem_cons.1 h with h | h
  ·subst h; simp [opdT]
  ·have := opdT_mem h
   cases x <;> simp [opdT, this]
theorem DT.funs {P : Program} : ∀ {L : List DOp} {E : Env} {H : AH} {E' : Env} {H' : AH}, DT P L E H E' H' →
  ∃ (Es : Nat → Env) (Hs : Nat → AH), Es 0 = E ∧ Hs 0 = H ∧ Es L.length = E' ∧ Hs L.length = H' ∧ ∀ p x, L[p]? = some x → DStep P x (Es p) (Hs p) (Es (p + 1)) (Hs (p + 1))
 | [], E, H, E', H', h => ⟨fun _ => E, fun _ => H, rfl, rfl, h.1.symm, h.2.symm, fun p x hp => by simp at hp⟩
 | x :: r, E, H, E', H', h => by
  obtain ⟨E1, H1, h1, h2⟩ := h
  obtain ⟨Es, Hs, e0, h0, en, hn, hs⟩ := DT.funs h2
  refine ⟨fun p => match p with | 0 => E | p + 1 => Es p, fun p => match p with | 0 => H | p + 1 => Hs p, rfl, rfl, en, hn, ?_⟩
  intro p y hp
  cases p with
  | zero =>
   simp only [List.getElem?_cons_zero, Option.some.injEq] at hp
   subst hp
   simp only [e0, h0]
   exact h1
  | succ p =>
   simp only [List.getElem?_cons_succ] at hp
   exact hs p y hp
theorem allP_of {n : Nat} {f : Nat → Bool} (h : allP n f = true) : ∀ p, p < n → f p = true := fun p hp => List.all_eq_true.1 h p (List.mem_range.2 hp)
theorem orE_bit {cl : List Nat} {i : Nat} : ∀ (l : List Edge) (s : Nat), (l.foldl (fun s e => if Region.binds .any e then s ||| (2 ^ e.on ||| cl.getD e.on 0) else s) s).testBit i = true →
  s.testBit i = true ∨ ∃ e ∈ l, Region.binds .any e = true ∧ (i = e.on ∨ (cl.getD e.on 0).testBit i = true)
 | [], s, h => .inl h
 | e :: r, s, h => by
  simp only [List.foldl_cons] at h
  rcases orE_bit r _ h with h | ⟨e', he, h'⟩
  ·split at h
   ·rename_i hb
    rw [Nat.testBit_or, Nat.testBit_or, Nat.testBit_two_pow] at h
    simp only [Bool.or_eq_true, decide_eq_true_eq] at h
    rcases h with h | h | h
    ·exact .inl h
    ·exact .inr ⟨e, by simp, hb, .inl h.symm⟩
    ·exact .inr ⟨e, by simp, hb, .inr h⟩
   ·exact .inl h
  ·exact .inr ⟨e', by simp [he], h'⟩
structure Good (ops : Array Oper) (cl ord : List Nat) (l : List ROper) : Prop where
 lenO : ord.length = ops.size
 lenL : l.length = ops.size
 sur : ∀ i, i < ops.size → ∃ p, p < ops.size ∧ ord.getD p 0 = i
 bnd : ∀ p, p < ops.size → ord.getD p 0 < ops.size
 clq : ∀ j, j < ops.size → cl.getD j 0 = orE cl (ops.getD j default)
 edge : ∀ j, j < ops.size → ∀ e ∈ (ops.getD j default).after.toList, Region.binds .any e = true → e.on < j
 uni : ∀ p q, p < ops.size → q < ops.size → ord.getD p 0 = ord.getD q 0 → p = q
 O : ∀ p q, p < q → q < ops.size → cmpB cl (ord.getD q 0) (ord.getD p 0) = false
 A : ∀ p q, p < q → q < ops.size → (l.getD p default).act = true → cmpB cl (ord.getD p 0) (ord.getD q 0) = true
 T : ∀ p q d, p < ops.size → q < ops.size → p ≠ q → (l.getD p default).d = some d → d ∈ (l.getD q default).names → cmpB cl (ord.getD p 0) (ord.getD q 0) = true ∨ cmpB cl (ord.getD q 0) (ord.getD p 0) = true
 RK : ∀ p q, p < q → q < ops.size → (l.getD q default).act = true → (l.getD p default).act = false → (l.getD p default).pure = false → cmpB cl (ord.getD p 0) (ord.getD q 0) = false →
  l.getD p default ∈ rkOf cl ord l q ∧ (l.getD p default).d.isSome = true ∧ (∀ d, (l.getD p default).d = some d → d ∉ (l.getD p default).reads) ∧ ∀ s d, p < s → s ≤ q → (l.getD s default).d = some d → d ∉ (l.getD p default).names
theorem Good.of {ops : Array Oper} {cl ord : List Nat} {l : List ROper} (h : dOk ops cl ord l = true) : Good ops cl ord l := by
 unfold dOk at h
 simp only [Bool.and_eq_true, beq_iff_eq] at h
 obtain ⟨⟨⟨⟨⟨h1, h2⟩, h3⟩, h4⟩, h5⟩, h6⟩ := h
 have h3' := allP_of h3
 have h4' := allP_of h4
 have h5' := allP_of h5
 have h6' := fun p hp => allP_of (allP_of h6 p hp)
 have pr : ∀ p q, p < ops.size → q < ops.size → p ≠ q → pairR cl ord l p q = true := fun p q hp hq hne => by
  have := h6' p hp q hq
  simp only [pairOk, Bool.or_eq_true, beq_iff_eq] at this
  rcases this with this | this
  ·exact absurd this hne
  ·exact this
 refine ⟨h1, h2, fun i hi => ?_, fun p hp => by simpa using h4' p hp, fun j hj => ?_, fun j hj e he hb => ?_, fun p q hp hq he => ?_, fun p q hpq hq => ?_, fun p q hpq hq ha => ?_, fun p q d hp hq hne hd hm => ?_, fun p q hpq hq a1 a2 a3 a4 => ?_⟩
 ·have := h3' i hi
  simp only [List.contains_iff_mem] at this
  obtain ⟨p, hp⟩ := List.mem_iff_getElem?.1 this
  have hlt := (List.getElem?_eq_some_iff.1 hp).1
  exact ⟨p, by omega, by simp [List.getD_eq_getElem?_getD, hp]⟩
 ·have := h5' j hj
  simp only [pairR, Bool.and_eq_true, beq_iff_eq] at this
  exact this.1
 ·have := h5' j hj
  simp only [pairR, Bool.and_eq_true, List.all_eq_true] at this
  have := this.2 e he
  simpa [hb] using this
 ·rcases Nat.decEq p q with hne | he'
  ·have := pr p q hp hq hne
   simp only [pairR, Bool.and_eq_true, bne_iff_ne] at this
   exact absurd he this.1.1.1
  ·exact he'
 ·have := pr p q (by omega) hq (by omega)
  simp only [pairR, Bool.and_eq_true, hpq, decide_true, Bool.not_true, Bool.false_or, Bool.not_eq_true'] at this
  exact this.1.1.2.1
 ·have := pr p q (by omega) hq (by omega)
  simp only [pairR, Bool.and_eq_true, hpq, decide_true, Bool.not_true, Bool.false_or, Bool.not_eq_true', ha] at this
  exact this.1.1.2.2
 ·have := pr p q hp hq hne
  simp only [pairR, Bool.and_eq_true] at this
  have := this.1.2
  rw [hd] at this
  have hc : (l.getD q default).names.contains d = true := by simpa using hm
  simp only [Option.any_some, hc, Bool.not_true, Bool.false_or, Bool.or_eq_true] at this
  exact this
 ·have := pr p q (by omega) hq (by omega)
  simp only [pairR, Bool.and_eq_true] at this
  have := this.2
  simp only [hpq, decide_true, a1, a2, a3, a4, Bool.not_false, Bool.and_self, Bool.not_true, Bool.false_or, Bool.and_eq_true, List.all_eq_true] at this
  refine ⟨?_, this.1.1, fun d hd hm => ?_, fun s d hps hsq hd hm => ?_⟩
  ·unfold rkOf
   rw [if_pos a1]
   exact List.mem_map.2 ⟨p, List.mem_filter.2 ⟨List.mem_range.2 hpq, by simp only [a2, a3, a4, Bool.not_false, Bool.and_self]⟩, rfl⟩
  ·have := this.1.2
   rw [hd] at this
   have hc : (l.getD p default).reads.contains d = true := by simpa using hm
   simp only [Option.any_some, hc, Bool.not_true, Bool.false_eq_true] at this
  ·have := this.2 s (List.mem_range.2 (by omega))
   rw [hd] at this
   have hc : (l.getD p default).names.contains d = true := by simpa using hm
   simp only [Option.any_some, hc, Bool.not_true, Bool.or_false, decide_eq_true_eq] at this
   omega
theorem Good.closed {ops : Array Oper} {cl ord : List Nat} {l : List ROper} (G : Good ops cl ord l) {listed : Nat → Prop} (hdown : ∀ j, j < ops.size → listed j → ∀ e ∈ (ops.getD j default).after.toList, Region.binds .any e = true → listed e.on) :
  ∀ j, j < ops.size → (∀ e ∈ (ops.getD j default).after.toList, Region.binds .any e = true → listed e.on) → ∀ i, cmpB cl i j = true → listed i := by
 intro j
 induction j using Nat.strongRecOn with
 | _ j ih =>
  intro hj hpre i hi
  unfold cmpB at hi
  rw [G.clq j hj] at hi
  rcases orE_bit _ _ hi with h | ⟨e, he, hb, h⟩
  ·simp at h
  ·have hlt := G.edge j hj e he hb
   have hl := hpre e he hb
   rcases h with rfl | h
   ·exact hl
   ·exact ih e.on hlt (by omega) (hdown e.on (by omega) hl) i h
end Go.AX
end
section
namespace Go.AX
open Go
structure PostD (base : Nat) (D DL : Nat → Prop) (j : Inj) (H : AH) (w : World) (H' : AH) (w' : World) (j' : Inj) : Prop where
 evo : Evo H H'
 agr : ∀ b, D b → j' b = j b
 sub : ∀ b, D b → DL b
 sim : Sim base DL j' H' w'
 fr : Fr D j H w w'
 fresh : ∀ b, DL b → ¬ D b → H'.g b ≠ .no → w.heap.size ≤ (j' b).k ∨ ∃ b0, D b0 ∧ (H.g b0).own = true ∧ H'.g b0 = .no ∧ (j b0).k = (j' b).k
section
variable {base : Nat} {D DL : Nat → Prop} {j j1 j2 : Inj} {H H1 H2 : AH} {w w1 w2 : World}
theorem PostD.step (a : PostD base D DL j H w H1 w1 j1) (c : Post base DL j1 H1 w1 H2 w2 j2) (hlt : ∀ b, D b → b < H.nx) : PostD base D (Dnew DL H1 H2) j H w H2 w2 j2 := by
 have e1 := a.evo.nx
 have e2 := c.evo.nx
 refine ⟨a.evo.trans c.evo, fun b hb => (c.agr b (a.sub b hb)).trans (a.agr b hb), fun b hb => .inl (a.sub b hb), c.sim, ⟨c.fr.os.trans a.fr.os, c.fr.tape.trans a.fr.tape, c.fr.output.trans a.fr.output, Nat.le_trans a.fr.size c.fr.size, ?_⟩, ?_⟩
 ·intro k hk hn
  have hk1 : w1.heap[k]? = w.heap[k]? := a.fr.block k hk hn
  rw [← hk1]
  refine c.fr.block k (Nat.lt_of_lt_of_le hk a.fr.size) ?_
  intro b hb hl
  by_cases hd : D b
  ·rw [a.agr b hd]
   exact hn b hd (a.evo.back (hlt b hd) hl)
  ·rcases a.fresh b hb hd (fun e => by rw [e] at hl; simp [Blk.own] at hl) with h3 | ⟨b0, hb0, hg0, _, hk0⟩
   ·omega
   ·rw [← hk0]; exact hn b0 hb0 hg0
 ·intro b hb hd hno
  rcases hb with hb | ⟨h1, h2⟩
  ·have h3 := a.sim.lt b hb
   have hno1 : H1.g b ≠ .no := fun e => hno (c.evo.no b h3 e)
   rw [c.agr b hb]
   rcases a.fresh b hb hd hno1 with h4 | ⟨b0, hb0, hg0, hn0, hk0⟩
   ·exact .inl h4
   ·exact .inr ⟨b0, hb0, hg0, c.evo.no b0 (Nat.lt_of_lt_of_le (hlt b0 hb0) e1) hn0, hk0⟩
  ·rcases c.fresh b h1 h2 hno with h4 | ⟨b0, hb0, hg0, hn0, hk0⟩
   ·exact .inl (Nat.le_trans a.fr.size h4)
   ·by_cases hd0 : D b0
    ·rw [a.agr b0 hd0] at hk0
     exact .inr ⟨b0, hd0, a.evo.back (hlt b0 hd0) hg0, hn0, hk0⟩
    ·rcases a.fresh b0 hb0 hd0 (fun e => by rw [e] at hg0; simp [Blk.own] at hg0) with h7 | ⟨b1, hb1, hg1, hn1, hk1⟩
     ·exact .inl (by omega)
     ·exact .inr ⟨b1, hb1, hg1, c.evo.no b1 (Nat.lt_of_lt_of_le (hlt b1 hb1) e1) hn1, hk1.trans hk0⟩
theorem Sim.lift (S : Sim base D j H w) (l : List AV) : Sim base D j (H.al l) w := by
 have hg : ∀ b, D b → (H.al l).g b = H.g b := fun b hb => by
  have := S.lt b hb
  simp only [AH.al]; rw [if_neg (by omega)]
 refine ⟨fun b hb => Nat.lt_succ_of_lt (S.lt b hb), fun b hb => ?_, S.size, fun b l hb h => S.ro b l hb (by rw [← hg b hb]; exact h), fun b l hb h => S.rw b l hb (by rw [← hg b hb]; exact h), fun b l hb h => S.mp b l hb (by rw [← hg b hb]; exact h), fun b b' hb hb' h1 h2 h3 => S.inj b b' hb hb' (by rw [← hg b hb]; exact h1) (by rw [← hg b' hb']; exact h2) h3⟩
 simp only [AH.al] at hb ⊢
 rw [if_neg (by omega)]
 exact S.wf b (by omega)
theorem PostD.lift (a : PostD base D DL j H w H1 w1 j1) (l : List AV) (hlt : ∀ b, D b → b < H.nx) : PostD base D DL j H w (H1.al l) w1 j1 := by
 have hg : ∀ b, b < H1.nx → (H1.al l).g b = H1.g b := fun b hb => by simp only [AH.al]; rw [if_neg (by omega)]
 refine ⟨a.evo.trans (Evo.al H1 l), a.agr, a.sub, a.sim.lift l, a.fr, fun b hb hd hno => ?_⟩
 rw [hg b (a.sim.lt b hb)] at hno
 rcases a.fresh b hb hd hno with h | ⟨b0, h1, h2, h3, h4⟩
 ·exact .inl h
 ·exact .inr ⟨b0, h1, h2, by rw [hg b0 (Nat.lt_of_lt_of_le (hlt b0 h1) a.evo.nx)]; exact h3, h4⟩
theorem heap_push {k : Nat} {x o : Obj} {h : Array Obj} (hk : h[k]? = some o) : (h.push x)[k]? = some o := by
 have := (Array.getElem?_eq_some_iff.1 hk).1
 rw [Array.getElem?_push, if_neg (by omega)]; exact hk
theorem Sim.grow (S : Sim base D j H w) {b0 : Nat} {l : List AV} {t : TypeId} (h0 : ¬ D b0) (hb0 : b0 < H.nx) (hg : H.g b0 = .rw l) (hl : AV.okL D l) (hs : AV.scL l = true) :
  Sim base (fun b => D b ∨ b = b0) (j.put b0 (.new w.heap.size l.length)) H { w with heap := w.heap.push (.cells (AV.conL j l).toArray t (0, 0)) } := by
 have hj : ∀ b, D b → j.put b0 (.new w.heap.size l.length) b = j b := fun b hb => by
  simp only [Inj.put]; rw [if_neg]; rintro rfl; exact h0 hb
 have hj0 : j.put b0 (.new w.heap.size l.length) b0 = (.new w.heap.size l.length) := by simp [Inj.put]
 have row : ∀ {k vs}, RowAt w k vs → RowAt { w with heap := w.heap.push (.cells (AV.conL j l).toArray t (0, 0)) } k vs := fun {k vs} ⟨cs, t', fr, h1, h2⟩ => ⟨cs, t', fr, heap_push h1, h2⟩
 refine ⟨?_, S.wf, ?_, ?_, ?_, ?_, ?_⟩
 ·rintro b (hb | rfl)
  ·exact S.lt b hb
  ·exact hb0
 ·simp only [Array.size_push]; have := S.size; omega
 ·rintro b l' (hb | rfl) h
  ·obtain ⟨h1, h2, h3⟩ := S.ro b l' hb h
   rw [hj b hb, conL_congr hj _ h2]
   exact ⟨row h1, okL_mono (fun _ => .inl) _ h2, h3⟩
  ·rw [hg] at h; cases h
 ·rintro b l' (hb | rfl) h
  ·obtain ⟨h1, h2, h3, h4⟩ := S.rw b l' hb h
   rw [hj b hb, conL_congr hj _ h2]
   obtain ⟨cs, t', fr, q1, q2⟩ := h1
   exact ⟨⟨cs, t', fr, heap_push q1, q2⟩, okL_mono (fun _ => .inl) _ h2, h3, h4⟩
  ·rw [hg] at h
   simp only [Blk.rw.injEq] at h; subst h
   rw [hj0, conL_congr hj _ hl]
   refine ⟨⟨(AV.conL j l).toArray, t, (0, 0), by simp, fun i v hv => by simpa using hv, by simp [conL_length], by simp [conL_length], .inl rfl⟩, okL_mono (fun _ => .inl) _ hl, hs, S.size, rfl, rfl⟩
 ·rintro b l' (hb | rfl) h
  ·obtain ⟨h1, h2, h3⟩ := S.mp b l' hb h
   rw [hj b hb, conM_congr hj h2]
   obtain ⟨en, c, q1, q2⟩ := h1
   exact ⟨⟨en, c, heap_push q1, q2⟩, okM_mono (fun _ => .inl) h2, h3⟩
  ·rw [hg] at h; cases h
 ·rintro b b' (hb | rfl) (hb' | rfl) h1 h2 h3
  ·rw [hj b hb, hj b' hb'] at h3
   exact S.inj b b' hb hb' h1 h2 h3
  ·rw [hj b hb, hj0] at h3
   have := S.row_lt hb (fun e => by rw [e] at h1; simp [Blk.own] at h1)
   simp only at h3; omega
  ·rw [hj b' hb', hj0] at h3
   have := S.row_lt hb' h2
   simp only at h3; omega
  ·rfl
theorem PostD.grow (a : PostD base D DL j H w H1 w1 j1) {b0 : Nat} {l : List AV} {t : TypeId} (h0 : ¬ DL b0) (hb0 : b0 < H1.nx) (hg : H1.g b0 = .rw l) (hl : AV.okL DL l) (hs : AV.scL l = true) :
  PostD base D (fun b => DL b ∨ b = b0) j H w H1 { w1 with heap := w1.heap.push (.cells (AV.conL j1 l).toArray t (0, 0)) } (j1.put b0 (.new w1.heap.size l.length)) := by
 have hj : ∀ b, DL b → j1.put b0 (.new w1.heap.size l.length) b = j1 b := fun b hb => by
  simp only [Inj.put]; rw [if_neg]; rintro rfl; exact h0 hb
 refine ⟨a.evo, fun b hb => (hj b (a.sub b hb)).trans (a.agr b hb), fun b hb => .inl (a.sub b hb), a.sim.grow h0 hb0 hg hl hs, ⟨a.fr.os, a.fr.tape, a.fr.output, ?_, ?_⟩, ?_⟩
 ·simp only [Array.size_push]; have := a.fr.size; omega
 ·intro k hk hn
  have := a.fr.size
  rw [← a.fr.block k hk hn]
  simp only
  rw [Array.getElem?_push, if_neg (by omega)]
 ·rintro b (hb | rfl) hd hno
  ·rw [hj b hb]; exact a.fresh b hb hd hno
  ·left; simp only [Inj.put, if_pos]; exact a.fr.size
end
theorem cls1_al {vo : VOp} {E : Env} {H H' : AH} {v : AV} (hc : vo.cls = 1) (h : vop vo E H = some (v, H')) : ∃ l, H' = H.al l ∧ (v = .pt H.nx 0 ∨ ∃ n c, v = .sl H.nx 0 n c) := by
 cases vo
 all_goals first
  | exact absurd hc (show ¬ ((0 : Nat) = 1) by decide)
  | exact absurd hc (show ¬ ((2 : Nat) = 1) by decide)
  | skip
 case alloc z =>
  simp only [vop, Option.some.injEq, Prod.mk.injEq] at h
  exact ⟨z, h.2.symm, .inl h.1.symm⟩
 case box x =>
  obtain ⟨l, _, h⟩ := Option.map_eq_some_iff.1 h
  simp only [Prod.mk.injEq] at h
  exact ⟨l, h.2.symm, .inl h.1.symm⟩
 case bsl n z ps =>
  obtain ⟨l, _, h⟩ := Option.map_eq_some_iff.1 h
  simp only [Prod.mk.injEq] at h
  exact ⟨l, h.2.symm, .inr ⟨_, _, h.1.symm⟩⟩
 case mks by_ z l c =>
  simp only [vop] at h
  generalize ev E l = u at *
  generalize ev E c = q at *
  cases u <;> cases q <;> simp only [vmks, reduceCtorEq] at h
  split at h
  ·simp only [Option.some.injEq, Prod.mk.injEq] at h
   exact ⟨_, h.2.symm, .inr ⟨_, _, h.1.symm⟩⟩
  ·cases h
section
variable {P : Program} {nt : Nat} {oo : Oper}
theorem resP_v {vo : VOp} (hres : resP P nt oo = some (.v vo)) : resV P nt oo = some vo := by
 unfold resP at hres
 split at hres
 ·split at hres
  ·split at hres
   ·obtain ⟨q, hq, he⟩ := Option.map_eq_some_iff.1 hres; cases he
   ·cases hres
  ·cases hres
 ·simp only [Option.bind_eq_some_iff, Option.map_eq_some_iff] at hres
  obtain ⟨_, _, _, _, he⟩ := hres; cases he
 ·obtain ⟨q, hq, he⟩ := Option.map_eq_some_iff.1 hres; cases he
 ·simp only [Option.bind_eq_some_iff, Option.map_eq_some_iff] at hres
  obtain ⟨_, _, _, _, he⟩ := hres; cases he
 ·obtain ⟨q, hq, he⟩ := Option.map_eq_some_iff.1 hres
  simp only [ROp.v.injEq] at he; subst he; exact hq
theorem resP_call {f : FuncId} {args : List Opd} {D : Nat → Prop} {j : Inj} {E : Env} {a : Act} {w : World} (Rl : Rel nt D j E a.tmps) (hres : resP P nt oo = some (.call f args)) :
  (execOp a.eval oo).run P w = .ok (.enter f (AV.conL j (vals E args)).toArray) w ∧ AV.okL D (vals E args) := by
 unfold resP at hres
 split at hres
 ·rename_i f' args' at' hq
  split at hres
  ·rename_i fn hf
   split at hres
   ·rename_i hb
    obtain ⟨as, has, he⟩ := Option.map_eq_some_iff.1 hres
    simp only [ROp.call.injEq] at he
    obtain ⟨rfl, rfl⟩ := he
    obtain ⟨r1, r2⟩ := resL_arr Rl has
    refine ⟨?_, r2⟩
    simp only [execOp, hq, resolve, Sem.run_bind, Act.eval, Deferred.ofValue, Sem.run_pure, Result.andThen_ok, invoke, Array.empty_append, Array.append_empty]
    rw [show (Array.map (fun x => a.eval x) args') = _ from r1]
    exact callFunc_run hf hb
   ·cases hres
  ·cases hres
 ·simp only [Option.bind_eq_some_iff, Option.map_eq_some_iff] at hres
  obtain ⟨_, _, _, _, he⟩ := hres; cases he
 ·obtain ⟨q, hq, he⟩ := Option.map_eq_some_iff.1 hres; cases he
 ·simp only [Option.bind_eq_some_iff, Option.map_eq_some_iff] at hres
  obtain ⟨_, _, _, _, he⟩ := hres; cases he
 ·obtain ⟨q, hq, he⟩ := Option.map_eq_some_iff.1 hres; cases he
theorem resP_calv {x : Opd} {args : List Opd} {D : Nat → Prop} {j : Inj} {E : Env} {a : Act} {w : World} {f : FuncId} {as : List AV} {fn : Func} (Rl : Rel nt D j E a.tmps) (hres : resP P nt oo = some (.calv x args))
  (hfun : funOf (vals E args) (ev E x) = some (f, as)) (hf : P.funcs[f]? = some fn) (hb : (fn.body.isSome && !(fn.name == "runtime.NumGoroutine")) = true) :
  (execOp a.eval oo).run P w = .ok (.enter f (AV.conL j as).toArray) w ∧ AV.okL D as := by
 unfold resP at hres
 split at hres
 ·split at hres
  ·split at hres
   ·obtain ⟨q, hq, he⟩ := Option.map_eq_some_iff.1 hres; cases he
   ·cases hres
  ·cases hres
 ·rename_i x0 args' at' hne hq
  simp only [Option.bind_eq_some_iff, Option.map_eq_some_iff] at hres
  obtain ⟨x', hx, as', has, he⟩ := hres
  simp only [ROp.calv.injEq] at he
  obtain ⟨rfl, rfl⟩ := he
  obtain ⟨x1, x2⟩ := Rl.ev hx
  obtain ⟨r1, r2⟩ := resL_arr Rl has
  generalize ev E x' = u at *
  unfold funOf at hfun
  split at hfun
  ·rename_i f' p c
   simp only [Option.some.injEq, Prod.mk.injEq] at hfun
   obtain ⟨rfl, rfl⟩ := hfun
   refine ⟨?_, ?_⟩
   ·simp only [execOp, hq, resolve, Sem.run_bind, x1, AV.con, Deferred.ofValue, Sem.run_pure, Result.andThen_ok, invoke]
    rw [show (Array.map (fun x => a.eval x) args') = _ from r1]
    have : (AV.conL j p).toArray ++ (AV.conL j (vals E as')).toArray ++ (AV.conL j c).toArray = (AV.conL j (p ++ vals E as' ++ c)).toArray := by simp [conL_append]
    rw [this]
    exact callFunc_run hf hb
   ·exact okL_append (okL_append x2.1 r2) x2.2
  ·cases hfun
 ·obtain ⟨q, hq, he⟩ := Option.map_eq_some_iff.1 hres; cases he
 ·simp only [Option.bind_eq_some_iff, Option.map_eq_some_iff] at hres
  obtain ⟨_, _, _, _, he⟩ := hres; cases he
 ·obtain ⟨q, hq, he⟩ := Option.map_eq_some_iff.1 hres; cases he
theorem resR_parts {ops : Array Oper} {r : ROper} (h : resR P nt ops oo = some r) : dstOk nt oo.dst = true ∧ oo.dst = r.d ∧ resG ops oo.guard = some r.g ∧ dstOk nt (r.g.map (·.1)) = true ∧ resP P nt oo = some r.o := by
 simp only [resR] at h
 split at h
 ·rename_i hd
  simp only [Option.bind_eq_some_iff] at h
  obtain ⟨g', hg', h⟩ := h
  split at h
  ·rename_i hgd
   obtain ⟨r', hr', he⟩ := Option.map_eq_some_iff.1 h
   subst he
   exact ⟨hd, rfl, hg', hgd, hr'⟩
  ·cases h
 ·cases h
end
end Go.AX
end
section
namespace Go.AX
open Go
theorem Env.put_ne {E : Env} {d : Option Nat} {v : AV} {t : Nat} (h : d ≠ some t) : E.put d v t = E t := by
 cases d with
 | none => rfl
 | some d => simp only [Env.put, Env.st]; rw [if_neg]; rintro rfl; exact h rfl
theorem Env.put_self {E : Env} {v : AV} {t : Nat} : E.put (some t) v t = v := by simp [Env.put, Env.st]
theorem gwant_congr {E E' : Env} {r : ROper} (h : ∀ t ∈ r.reads, E t = E' t) : gwant E r.g = gwant E' r.g := by
 cases hg : r.g with
 | none => rfl
 | some tb =>
  obtain ⟨t, b⟩ := tb
  have : t ∈ r.reads := by simp [ROper.reads, hg]
  simp only [gwant, h t this]
theorem ev_congr {E E' : Env} {r : ROper} (h : ∀ t ∈ r.reads, E t = E' t) : ∀ x ∈ r.o.opds, ev E x = ev E' x := by
 intro x hx
 cases x with
 | t n => exact h n (by simp only [ROper.reads, List.mem_append]; exact .inr (opdT_mem hx))
 | _ => rfl
theorem vals_congr {E E' : Env} {l : List Opd} (h : ∀ x ∈ l, ev E x = ev E' x) : vals E l = vals E' l := List.map_congr_left h
theorem names_d {r : ROper} {d : Nat} (h : r.d = some d) : d ∈ r.names := by simp [ROper.names, h]
theorem names_r {r : ROper} {d : Nat} (h : d ∈ r.reads) : d ∈ r.names := by simp [ROper.names, h]
theorem act_v {r : ROper} {vo : VOp} (h : r.o = .v vo) : r.act = (vo.cls == 2) := by simp [ROper.act, h]
theorem pure_v {r : ROper} {vo : VOp} (h : r.o = .v vo) : r.pure = vo.pure := by simp [ROper.pure, h]
theorem pure_1 {vo : VOp} (h : vo.cls = 1) : vo.pure = false := by
 cases vo <;> first | rfl | exact absurd h (show ¬ ((0 : Nat) = 1) by decide)
section
variable {P : Program} {x : DOp} {E E1 : Env} {H H1 : AH}
theorem DStep.off (h : DStep P x E H E1 H1) (hg : gwant E x.r.g = some false) : E1 = E.put x.r.d (.tu []) ∧ H1 = H := by
 obtain ⟨g, h1, h2⟩ := h
 rw [hg] at h1
 simp only [Option.some.injEq] at h1; subst h1
 simpa using h2
theorem DStep.env (h : DStep P x E H E1 H1) : ∃ v, E1 = E.put x.r.d v := by
 obtain ⟨g, h1, h2⟩ := h
 cases g with
 | false => simp only [Bool.false_eq_true, if_false] at h2; exact ⟨_, h2.1⟩
 | true =>
  simp only [if_true] at h2
  split at h2
  ·obtain ⟨v, _, h, _⟩ := h2; exact ⟨v, h⟩
  ·obtain ⟨v, _, h, _⟩ := h2; exact ⟨v, h⟩
  ·obtain ⟨_, _, v, _, _, _, h, _⟩ := h2; exact ⟨v, h⟩
  ·exact h2.elim
theorem DStep.chk (h : DStep P x E H E1 H1) : H1 = H ∨ Rechks x.rk E1 H H1 := by
 obtain ⟨g, h1, h2⟩ := h
 cases g with
 | false => simp only [Bool.false_eq_true, if_false] at h2; exact .inl h2.2
 | true =>
  simp only [if_true] at h2
  split at h2
  ·obtain ⟨v, _, _, h⟩ := h2; exact .inr h
  ·obtain ⟨v, _, _, h⟩ := h2; exact .inr h
  ·obtain ⟨_, _, v, _, _, _, _, h⟩ := h2; exact .inr h
  ·exact h2.elim
theorem DStep.quiet (h : DStep P x E H E1 H1) (hq : x.r.act = false) : H1 = H ∨ ∃ l, H1 = H.al l := by
 obtain ⟨g, h1, h2⟩ := h
 cases g with
 | false => simp only [Bool.false_eq_true, if_false] at h2; exact .inl h2.2
 | true =>
  simp only [if_true] at h2
  unfold ROper.act at hq
  cases ho : x.r.o with
  | v vo =>
   rw [ho] at hq h2
   obtain ⟨v, h, _⟩ := h2
   have hc : vo.cls = 0 ∨ vo.cls = 1 := by
    simp only [beq_eq_false_iff_ne, ne_eq] at hq
    cases vo <;> first | exact .inl rfl | exact .inr rfl | exact absurd rfl hq
   rcases hc with hc | hc
   ·exact .inl (cls0 hc h)
   ·obtain ⟨l, h, _⟩ := cls1_al hc h
    exact .inr ⟨l, h⟩
  | _ => rw [ho] at hq; simp at hq
end
structure DSet (P : Program) (nt : Nat) (ops : Array Oper) (cl ord : List Nat) (l : List ROper) (Es : Nat → Env) (Hs : Nat → AH) : Prop where
 G : Good ops cl ord l
 st : ∀ p, p < ops.size → DStep P ⟨l.getD p default, rkOf cl ord l p⟩ (Es p) (Hs p) (Es (p + 1)) (Hs (p + 1))
 rs : ∀ p, p < ops.size → ∃ o, ops[ord.getD p 0]? = some o ∧ resR P nt ops o = some (l.getD p default)
section
variable {P : Program} {nt : Nat} {ops : Array Oper} {cl ord : List Nat} {l : List ROper} {Es : Nat → Env} {Hs : Nat → AH}
theorem DSet.same (S : DSet P nt ops cl ord l Es Hs) {t p q : Nat} (hpq : p ≤ q) (hq : q ≤ ops.size) (h : ∀ s, p ≤ s → s < q → (l.getD s default).d ≠ some t) : Es q t = Es p t := by
 induction hpq with
 | refl => rfl
 | @step m hm ih =>
  obtain ⟨v, hv⟩ := (S.st m hq).env
  rw [hv, Env.put_ne (h m hm (Nat.lt_succ_self m))]
  exact ih (Nat.le_of_succ_le hq) fun s h1 h2 => h s h1 (Nat.lt_succ_of_lt h2)
theorem DSet.reads (S : DSet P nt ops cl ord l Es Hs) {q r : Nat} (hqr : q < r) (hr : r < ops.size) (h1 : ∀ d, (l.getD q default).d = some d → d ∉ (l.getD q default).reads)
  (h2 : ∀ s d, q < s → s ≤ r → (l.getD s default).d = some d → d ∉ (l.getD q default).names) : (∀ t ∈ (l.getD q default).reads, Es (r + 1) t = Es q t) ∧ ∀ d, (l.getD q default).d = some d → Es (r + 1) d = Es (q + 1) d := by
 refine ⟨fun t ht => S.same (by omega) hr fun s hs1 hs2 hd => ?_, fun d hd => S.same (by omega) hr fun s hs1 hs2 hd' => ?_⟩
 ·rcases Nat.lt_or_ge q s with h | h
  ·exact h2 s t h (by omega) hd (names_r ht)
  ·obtain rfl : s = q := by omega
   exact h1 t hd ht
 ·exact h2 s d (by omega) (by omega) hd' (names_d hd)
theorem DSet.chain0 (S : DSet P nt ops cl ord l Es Hs) {q s : Nat} (hs : s ≤ ops.size) (hqs : q < s) {vo : VOp} {v : AV} (ho : (l.getD q default).o = .v vo) (hc : vo.cls = 0)
  (hg : gwant (Es q) (l.getD q default).g = some true) (hv : vop vo (Es q) (Hs q) = some (v, Hs q)) (hE : Es (q + 1) = (Es q).put (l.getD q default).d v)
  (hcmp : ∀ r, q < r → r < s → (l.getD r default).act = true → cmpB cl (ord.getD q 0) (ord.getD r 0) = false) (hwf : ∀ r, r < s → (Hs r).g (Hs r).nx = .no) :
  ∀ r, q ≤ r → r ≤ s → vop vo (Es q) (Hs r) = some (v, Hs r) := by
 intro r hqr
 have hqa : (l.getD q default).act = false := by rw [act_v ho, hc]; rfl
 induction hqr with
 | refl => intro _; exact hv
 | @step r hqr ih =>
  intro hrs
  have hqr : q ≤ r := hqr
  have ih := ih (Nat.le_of_succ_le hrs)
  cases ha : (l.getD r default).act with
  | false =>
   rcases (S.st r (by omega)).quiet ha with h | ⟨m, h⟩
   ·rw [h]; exact ih
   ·rw [h]; exact stable_al hc (hwf r hrs) ih m
  | true =>
   have hlt : q < r := by
    rcases Nat.lt_or_ge q r with h | h
    ·exact h
    ·obtain rfl : q = r := by omega
     rw [hqa] at ha; cases ha
   by_cases hp : vo.pure = true
   ·exact pure_any hp ih
   ·have hpp : (l.getD q default).pure = false := by rw [pure_v ho]; simpa using hp
    obtain ⟨m, hds, h1, h2⟩ := S.G.RK q r hlt (by omega) ha hqa hpp (hcmp r hlt hrs ha)
    rcases (S.st r (by omega)).chk with h | h
    ·rw [h]; exact ih
    ·obtain ⟨_, hck⟩ := h _ m
     obtain ⟨d, hd⟩ := Option.isSome_iff_exists.1 hds
     obtain ⟨e1, e2⟩ := S.reads hlt (by omega) h1 h2
     have e2 := e2 d hd
     rw [hE, hd, Env.put_self] at e2
     rcases hck d hd with hck | hck
     ·rw [gwant_congr e1, hg] at hck; cases hck
     ·rw [ho] at hck
      simp only [hc, Nat.zero_ne_one, if_false] at hck
      rw [e2, vop_congr (E' := Es q) (fun x hx => ev_congr e1 x (by rw [ho]; exact hx))] at hck
      exact hck
theorem DSet.chain1 (S : DSet P nt ops cl ord l Es Hs) {q s : Nat} (hs : s ≤ ops.size) {vo : VOp} {v : AV} {m : List AV} (ho : (l.getD q default).o = .v vo) (hc : vo.cls = 1)
  (hg : gwant (Es q) (l.getD q default).g = some true) (hm : Hs (q + 1) = (Hs q).al m) (hv : v = .pt (Hs q).nx 0 ∨ ∃ n c, v = .sl (Hs q).nx 0 n c) (hE : Es (q + 1) = (Es q).put (l.getD q default).d v)
  (hcmp : ∀ r, q < r → r < s → (l.getD r default).act = true → cmpB cl (ord.getD q 0) (ord.getD r 0) = false) (hev : ∀ r, r < s → Evo (Hs r) (Hs (r + 1))) :
  ∀ r, q + 1 ≤ r → r ≤ s → (Hs r).g (Hs q).nx = .rw m ∧ (Hs q).nx < (Hs r).nx := by
 intro r hqr
 have hqa : (l.getD q default).act = false := by rw [act_v ho, hc]; rfl
 have hpp : (l.getD q default).pure = false := by rw [pure_v ho]; exact pure_1 hc
 induction hqr with
 | refl => intro _; rw [hm]; simp [AH.al]
 | @step r hqr ih =>
  intro hrs
  have hqr : q + 1 ≤ r := hqr
  obtain ⟨ih1, ih2⟩ := ih (Nat.le_of_succ_le hrs)
  have hnx := (hev r hrs).nx
  refine ⟨?_, Nat.lt_of_lt_of_le ih2 hnx⟩
  show (Hs (r + 1)).g (Hs q).nx = .rw m
  cases ha : (l.getD r default).act with
  | false =>
   rcases (S.st r (by omega)).quiet ha with h | ⟨m', h⟩
   ·rw [h]; exact ih1
   ·rw [h]; simp only [AH.al]; rw [if_neg (by omega)]; exact ih1
  | true =>
   obtain ⟨mm, hds, h1, h2⟩ := S.G.RK q r (by omega) (by omega) ha hqa hpp (hcmp r (by omega) hrs ha)
   rcases (S.st r (by omega)).chk with h | h
   ·rw [h]; exact ih1
   ·obtain ⟨_, hck⟩ := h _ mm
    obtain ⟨d, hd⟩ := Option.isSome_iff_exists.1 hds
    obtain ⟨e1, e2⟩ := S.reads (show q < r by omega) (by omega) h1 h2
    have e2 := e2 d hd
    rw [hE, hd, Env.put_self] at e2
    rcases hck d hd with hck | hck
    ·rw [gwant_congr e1, hg] at hck; cases hck
    ·rw [ho] at hck
     simp only [hc, if_true] at hck
     rw [e2] at hck
     rcases hv with rfl | ⟨n, c, rfl⟩
     ·simp only [sameB] at hck; rw [hck]; exact ih1
     ·simp only [sameB] at hck; rw [hck]; exact ih1
end
def lst (L : Array Bool) (i : Nat) : Prop := L.getD i false = true
theorem lst_set {L : Array Bool} {i k : Nat} (h : i < L.size) : lst (L.setIfInBounds i true) k ↔ lst L k ∨ k = i := by
 unfold lst
 simp only [Array.getD_eq_getD_getElem?]
 by_cases he : k = i
 ·subst he
  simp [h]
 ·rw [Array.getElem?_setIfInBounds_ne (fun e => he e.symm)]
  simp [he]
def DL (ord : List Nat) (Hs : Nat → AH) (n : Nat) (D : Nat → Prop) (L : Array Bool) (b : Nat) : Prop := D b ∨ ∃ p, p < n ∧ lst L (ord.getD p 0) ∧ (Hs p).nx ≤ b ∧ b < (Hs (p + 1)).nx
structure Inv (nt : Nat) (ops : Array Oper) (ord : List Nat) (l : List ROper) (Es : Nat → Env) (Hs : Nat → AH) (base : Nat) (D : Nat → Prop) (j0 : Inj) (H : AH) (w0 : World) (dd : List Deferred)
  (L : Array Bool) (s : Nat) (a : Act) (w : World) (j : Inj) (EL : Env) : Prop where
 size : L.size = ops.size
 down : ∀ i, i < ops.size → lst L i → ∀ e ∈ (ops.getD i default).after.toList, Region.binds .any e = true → lst L e.on
 sn : s ≤ ops.size
 acts : ∀ p, p < ops.size → (l.getD p default).act = true → (lst L (ord.getD p 0) ↔ p < s)
 low : ∀ p, p < ops.size → lst L (ord.getD p 0) → p < s
 ev : ∀ r, r < s → Evo (Hs r) (Hs (r + 1))
 wf : ∀ r, r ≤ s → ∀ b, (Hs r).nx ≤ b → (Hs r).g b = .no
 val : ∀ p, p ≤ ops.size → ∀ t, (∀ p', p' < ops.size → (l.getD p' default).d = some t → (lst L (ord.getD p' 0) ↔ p' < p)) → EL t = Es p t
 rel : Rel nt (DL ord Hs ops.size D L) j EL a.tmps
 dfr : a.defers = dd
 post : PostD base D (DL ord Hs ops.size D L) j0 H w0 (Hs s) w j
section
variable {P : Program} {nt : Nat} {ops : Array Oper} {cl ord : List Nat} {l : List ROper} {Es : Nat → Env} {Hs : Nat → AH}
variable {base : Nat} {D : Nat → Prop} {j0 : Inj} {H : AH} {w0 : World} {dd : List Deferred} {L : Array Bool} {s : Nat} {a : Act} {w : World} {j : Inj} {EL : Env}
theorem Inv.raise1 (I : Inv nt ops ord l Es Hs base D j0 H w0 dd L s a w j EL) (S : DSet P nt ops cl ord l Es Hs) (hlt : ∀ b, D b → b < H.nx) (hs : s < ops.size) (hq : (l.getD s default).act = false) :
  Inv nt ops ord l Es Hs base D j0 H w0 dd L (s + 1) a w j EL := by
 have h := (S.st s hs).quiet hq
 refine ⟨I.size, I.down, hs, fun p hp ha => ?_, fun p hp h => Nat.lt_succ_of_lt (I.low p hp h), fun r hr => ?_, fun r hr => ?_, I.val, I.rel, I.dfr, ?_⟩
 ·rw [I.acts p hp ha]
  constructor
  ·intro h; omega
  ·intro h
   rcases Nat.lt_or_ge p s with h' | h'
   ·exact h'
   ·obtain rfl : p = s := by omega
    rw [hq] at ha; cases ha
 ·rcases Nat.lt_or_ge r s with h' | h'
  ·exact I.ev r h'
  ·obtain rfl : r = s := by omega
   rcases h with h | ⟨m, h⟩
   ·rw [h]; exact Evo.refl _
   ·rw [h]; exact Evo.al _ _
 ·rcases Nat.lt_or_ge s r with h' | h'
  ·obtain rfl : r = s + 1 := by omega
   have := I.wf s (Nat.le_refl _)
   rcases h with h | ⟨m, h⟩
   ·rw [h]; exact this
   ·rw [h]
    intro b hb
    simp only [AH.al] at hb ⊢
    rw [if_neg (by omega)]
    exact this b (by omega)
  ·exact I.wf r h'
 ·rcases h with h | ⟨m, h⟩
  ·rw [h]; exact I.post
  ·rw [h]; exact I.post.lift m hlt
theorem Inv.raise (S : DSet P nt ops cl ord l Es Hs) (hlt : ∀ b, D b → b < H.nx) {q : Nat} (hsq : s ≤ q) (hq : q ≤ ops.size) (h : ∀ r, s ≤ r → r < q → (l.getD r default).act = false)
  (I : Inv nt ops ord l Es Hs base D j0 H w0 dd L s a w j EL) : Inv nt ops ord l Es Hs base D j0 H w0 dd L q a w j EL := by
 induction hsq with
 | refl => exact I
 | @step m hm ih => exact (ih (Nat.le_of_succ_le hq) fun r h1 h2 => h r h1 (Nat.lt_succ_of_lt h2)).raise1 S hlt hq (h m hm (Nat.lt_succ_self m))
structure Rdy (ops : Array Oper) (ord : List Nat) (L : Array Bool) (q : Nat) : Prop where
 lt : q < ops.size
 un : ¬ lst L (ord.getD q 0)
 pre : ∀ e ∈ (ops.getD (ord.getD q 0) default).after.toList, Region.binds .any e = true → lst L e.on
theorem Inv.before (I : Inv nt ops ord l Es Hs base D j0 H w0 dd L s a w j EL) (S : DSet P nt ops cl ord l Es Hs) {q : Nat} (R : Rdy ops ord L q) {i : Nat} (h : cmpB cl i (ord.getD q 0) = true) : lst L i :=
 S.G.closed (listed := lst L) I.down _ (S.G.bnd q R.lt) R.pre i h
theorem Inv.behind (I : Inv nt ops ord l Es Hs base D j0 H w0 dd L s a w j EL) (S : DSet P nt ops cl ord l Es Hs) {p : Nat} (hp : p < ops.size) (hl : lst L (ord.getD p 0)) {i : Nat} (h : cmpB cl i (ord.getD p 0) = true) : lst L i :=
 S.G.closed (listed := lst L) I.down _ (S.G.bnd p hp) (I.down _ (S.G.bnd p hp) hl) i h
theorem Inv.writers (I : Inv nt ops ord l Es Hs base D j0 H w0 dd L s a w j EL) (S : DSet P nt ops cl ord l Es Hs) {q : Nat} (R : Rdy ops ord L q) {t : Nat} (ht : t ∈ (l.getD q default).names) {p : Nat} (hp : p < ops.size) (hd : (l.getD p default).d = some t) :
  lst L (ord.getD p 0) ↔ p < q := by
 rcases Nat.lt_trichotomy p q with h | h | h
 ·refine ⟨fun _ => h, fun _ => ?_⟩
  rcases S.G.T p q t hp R.lt (by omega) hd ht with h' | h'
  ·exact I.before S R h'
  ·rw [S.G.O p q h R.lt] at h'; cases h'
 ·subst h; exact ⟨fun h => absurd h R.un, fun h => by omega⟩
 ·refine ⟨fun hl => ?_, fun h' => by omega⟩
  rcases S.G.T p q t hp R.lt (by omega) hd ht with h' | h'
  ·rw [S.G.O q p h hp] at h'; cases h'
  ·exact absurd (I.behind S hp hl h') R.un
theorem Inv.reads (I : Inv nt ops ord l Es Hs base D j0 H w0 dd L s a w j EL) (S : DSet P nt ops cl ord l Es Hs) {q : Nat} (R : Rdy ops ord L q) : ∀ t ∈ (l.getD q default).reads, EL t = Es q t := fun t ht =>
 I.val q (Nat.le_of_lt R.lt) t fun p hp hd => I.writers S R (names_r ht) hp hd
theorem Inv.next (I : Inv nt ops ord l Es Hs base D j0 H w0 dd L s a w j EL) (S : DSet P nt ops cl ord l Es Hs) {q : Nat} (R : Rdy ops ord L q) {s' : Nat} {a' : Act} {w' : World} {j' : Inj} {v : AV}
  (hE : Es (q + 1) = (Es q).put (l.getD q default).d v)
  (hs : (s' = s ∧ q < s ∧ (l.getD q default).act = false) ∨ (s' = q + 1 ∧ s = q ∧ Evo (Hs q) (Hs (q + 1)) ∧ ∀ b, (Hs (q + 1)).nx ≤ b → (Hs (q + 1)).g b = .no))
  (hrel : Rel nt (Dnew (DL ord Hs ops.size D L) (Hs q) (Hs (q + 1))) j' (EL.put (l.getD q default).d v) a'.tmps) (hd : a'.defers = dd)
  (hpost : PostD base D (Dnew (DL ord Hs ops.size D L) (Hs q) (Hs (q + 1))) j0 H w0 (Hs s') w' j') :
  Inv nt ops ord l Es Hs base D j0 H w0 dd (L.setIfInBounds (ord.getD q 0) true) s' a' w' j' (EL.put (l.getD q default).d v) := by
 have hb : ord.getD q 0 < L.size := by rw [I.size]; exact S.G.bnd q R.lt
 have hset : ∀ k, lst (L.setIfInBounds (ord.getD q 0) true) k ↔ lst L k ∨ k = ord.getD q 0 := fun k => lst_set hb
 have hl : ∀ p, p < ops.size → (lst (L.setIfInBounds (ord.getD q 0) true) (ord.getD p 0) ↔ lst L (ord.getD p 0) ∨ p = q) := fun p hp => by
  rw [hset]
  exact or_congr Iff.rfl ⟨fun h => S.G.uni p q hp R.lt h, fun h => by rw [h]⟩
 have hDL : DL ord Hs ops.size D (L.setIfInBounds (ord.getD q 0) true) = Dnew (DL ord Hs ops.size D L) (Hs q) (Hs (q + 1)) := by
  funext b
  apply propext
  unfold DL Dnew
  constructor
  ·rintro (h | ⟨p, hp, h1, h2, h3⟩)
   ·exact .inl (.inl h)
   ·rcases (hl p hp).1 h1 with h1 | rfl
    ·exact .inl (.inr ⟨p, hp, h1, h2, h3⟩)
    ·exact .inr ⟨h2, h3⟩
  ·rintro ((h | ⟨p, hp, h1, h2, h3⟩) | ⟨h2, h3⟩)
   ·exact .inl h
   ·exact .inr ⟨p, hp, (hl p hp).2 (.inl h1), h2, h3⟩
   ·exact .inr ⟨q, R.lt, (hl q R.lt).2 (.inr rfl), h2, h3⟩
 refine ⟨by simp [I.size], ?_, ?_, ?_, ?_, ?_, ?_, ?_, by rw [hDL]; exact hrel, hd, by rw [hDL]; exact hpost⟩
 ·intro i hi hli e he hbnd
  rw [hset] at hli ⊢
  rcases hli with hli | rfl
  ·exact .inl (I.down i hi hli e he hbnd)
  ·exact .inl (R.pre e he hbnd)
 ·rcases hs with ⟨rfl, _, _⟩ | ⟨rfl, _, _⟩
  ·exact I.sn
  ·exact R.lt
 ·intro p hp ha
  rw [hl p hp]
  rcases hs with ⟨rfl, h2, h3⟩ | ⟨rfl, rfl, _⟩
  ·rw [I.acts p hp ha]
   exact ⟨fun h => h.elim id fun e => by rw [e]; exact h2, .inl⟩
  ·rw [I.acts p hp ha]
   exact ⟨fun h => by omega, fun h => by omega⟩
 ·intro p hp h
  rcases (hl p hp).1 h with h | rfl
  ·have := I.low p hp h
   rcases hs with ⟨rfl, h2, h3⟩ | ⟨rfl, rfl, _⟩ <;> omega
  ·rcases hs with ⟨rfl, h2, h3⟩ | ⟨rfl, rfl, _⟩ <;> omega
 ·intro r hr
  rcases hs with ⟨rfl, h2, h3⟩ | ⟨rfl, rfl, h, _⟩
  ·exact I.ev r hr
  ·rcases Nat.lt_or_ge r s with h' | h'
   ·exact I.ev r h'
   ·obtain rfl : r = s := by omega
    exact h
 ·intro r hr
  rcases hs with ⟨rfl, h2, h3⟩ | ⟨rfl, rfl, _, h⟩
  ·exact I.wf r hr
  ·rcases Nat.lt_or_ge s r with h' | h'
   ·obtain rfl : r = s + 1 := by omega
    exact h
   ·exact I.wf r h'
 ·intro p hp t ht
  by_cases hdt : (l.getD q default).d = some t
  ·rw [hdt, Env.put_self]
   have hqp : q < p := ((ht q R.lt hdt).1 ((hl q R.lt).2 (.inr rfl)))
   have := S.same (t := t) (p := q + 1) (q := p) hqp hp fun s hs1 hs2 hds => by
    have h1 := (ht s (by omega) hds).2 hs2
    rcases (hl s (by omega)).1 h1 with h1 | h1
    ·have := (I.writers S R (t := t) (names_d hdt) (by omega) hds).1 h1
     omega
    ·omega
   rw [this, hE, hdt, Env.put_self]
  ·rw [Env.put_ne hdt]
   refine I.val p hp t fun p' hp' hd' => ?_
   rw [← ht p' hp' hd', hl p' hp']
   exact ⟨.inl, fun h => h.elim id fun e => by rw [e] at hd'; exact absurd hd' hdt⟩
end
end Go.AX
end
section
namespace Go.AX
open Go
section
variable {P : Program} {nt : Nat} {ops : Array Oper} {cl ord : List Nat} {l : List ROper} {Es : Nat → Env} {Hs : Nat → AH}
variable {base : Nat} {D : Nat → Prop} {j0 : Inj} {H : AH} {w0 : World} {dd : List Deferred} {L : Array Bool} {s : Nat} {a : Act} {w : World} {j : Inj} {EL : Env}
theorem put_defers' (a : Act) (d : Option Tmp) (v : Value) : (a.put d v).defers = a.defers := by cases d <;> rfl
theorem Dnew_same {D : Nat → Prop} {H H' : AH} (h : H' = H) : Dnew D H H' = D := by
 subst h; funext b; exact propext Dnew.self
theorem Inv.op (I : Inv nt ops ord l Es Hs base D j0 H w0 dd L s a w j EL) (S : DSet P nt ops cl ord l Es Hs) (hlt : ∀ b, D b → b < H.nx) (hH : Hs 0 = H) {q : Nat} (R : Rdy ops ord L q) {Q : Exit → Act → World → Prop} {K : Act → World → Prop}
   (hK : ∀ s' a' w' j' EL', Inv nt ops ord l Es Hs base D j0 H w0 dd (L.setIfInBounds (ord.getD q 0) true) s' a' w' j' EL' → K a' w') : wpOp P ops Q (ord.getD q 0) K a w := by
 obtain ⟨o, ho, hr⟩ := S.rs q R.lt
 obtain ⟨hd, hdst, hgr, hgd, hres⟩ := resR_parts hr
 have st := S.st q R.lt
 have hrd := I.reads S R
 have hgw : gwant EL (l.getD q default).g = gwant (Es q) (l.getD q default).g := gwant_congr hrd
 have hev := ev_congr hrd
 have noact : ∀ r, s ≤ r → r < q → (l.getD r default).act = false := by
   intro r h1 h2
   cases ha : (l.getD r default).act with
   | false => rfl
   | true =>
     have := (I.acts r (by have := R.lt; omega) ha).1 (I.before S R (S.G.A r q h2 R.lt ha))
     omega
 have sq : (l.getD q default).act = true → s ≤ q := by
   intro ha
   rcases Nat.lt_or_ge q s with h | h
   · exact absurd ((I.acts q R.lt ha).2 h) R.un
   · exact h
 have toQ : (l.getD q default).act = true → Inv nt ops ord l Es Hs base D j0 H w0 dd L q a w j EL := fun ha => I.raise S hlt (sq ha) (Nat.le_of_lt R.lt) noact
 have past : (l.getD q default).act = false → ∃ s1, q < s1 ∧ Inv nt ops ord l Es Hs base D j0 H w0 dd L s1 a w j EL := by
   intro ha
   rcases Nat.lt_or_ge q s with h | h
   · exact ⟨s, h, I⟩
   · exact ⟨q + 1, Nat.lt_succ_self q, (I.raise S hlt h (Nat.le_of_lt R.lt) noact).raise1 S hlt R.lt ha⟩
 have wpo : ∀ {c : Bool}, Region.wanted o (yielded ops a.tmps) = c → (c = true → o.wp P a w K Q) → (c = false → K (a.put o.dst undef) w) → wpOp P ops Q (ord.getD q 0) K a w := by
   intro c hc h1 h2
   unfold wpOp
   rw [ho]
   simp only [hc]
   cases c with
   | true => rw [if_pos rfl]; exact .inl (h1 rfl)
   | false => rw [if_neg (by decide)]; exact h2 rfl
 obtain ⟨g, hg, hst⟩ := id st
 simp only at hg hst
 have hw := wanted_run I.rel hgr hgd (hgw.trans hg)
 refine wpo hw (fun hgt => ?_) (fun hgf => ?_)
 · subst hgt
   simp only [if_true] at hst
   have call : ∀ (f : FuncId) (as : List AV) (v : AV), (l.getD q default).act = true → CallT P f as (Hs q) (.ret v) (Hs (q + 1)) → Es (q + 1) = (Es q).put (l.getD q default).d v →
       (execOp a.eval o).run P w = .ok (.enter f (AV.conL j as).toArray) w → AV.okL (DL ord Hs ops.size D L) as → o.wp P a w K Q := by
     intro f as v ha hcall hE hex hok
     have I' := toQ ha
     unfold Oper.wp
     rw [hex, Oper.upon_enter]
     refine Calls.mono (hcall base _ j w I'.post.sim hok) ?_
     rintro e w' ⟨j', rfl, hvo, hp⟩
     simp only [AEnd.con]
     refine hK _ _ _ _ _ (I'.next S R hE (.inr ⟨rfl, rfl, hp.evo, hp.sim.wf⟩) ?_ (by rw [put_defers']; exact I.dfr) (I'.post.step hp hlt))
     rw [← hdst]
     exact (I.rel.mono (fun _ => .inl) hp.agr).put hd hvo
   cases hop : (l.getD q default).o with
   | v vo =>
     rw [hop] at hst hres
     obtain ⟨v, hv, hE, hck⟩ := hst
     have hrv := resP_v hres
     have hvL : vop vo EL (Hs q) = some (v, Hs (q + 1)) := by rw [← hv]; exact vop_congr fun x hx => hev x (by rw [hop]; exact hx)
     by_cases hc2 : vo.cls = 2
     · have ha : (l.getD q default).act = true := by rw [act_v hop, hc2]; rfl
       have I' := toQ ha
       obtain ⟨nx, w', j', hr', hn, hvo, hp⟩ := vop_sound (o := o) I.rel I'.post.sim hrv hvL
       unfold Oper.wp
       rw [hr']
       rcases hn with rfl | ⟨rfl, rfl⟩
       · rw [Oper.upon_value]
         refine hK _ _ _ _ _ (I'.next S R hE (.inr ⟨rfl, rfl, hp.evo, hp.sim.wf⟩) ?_ (by rw [put_defers']; exact I.dfr) (I'.post.step hp hlt))
         rw [← hdst]
         exact (I.rel.mono (fun _ => .inl) hp.agr).put hd hvo
       · rw [Oper.upon_skip]
         refine hK _ _ _ _ _ (I'.next S R hE (.inr ⟨rfl, rfl, hp.evo, hp.sim.wf⟩) ?_ (by rw [put_defers']; exact I.dfr) (I'.post.step hp hlt))
         rw [← hdst]
         exact (I.rel.mono (fun _ => .inl) hp.agr).put (v := .tu []) hd hvo
     · have hc : vo.cls = 0 ∨ vo.cls = 1 := by
         cases vo <;> first | exact .inl rfl | exact .inr rfl | exact absurd rfl hc2
       have ha : (l.getD q default).act = false := by
         rw [act_v hop]
         rcases hc with hc | hc <;> rw [hc] <;> rfl
       obtain ⟨s1, hs1, I'⟩ := past ha
       have hcmp : ∀ r, q < r → r < s1 → (l.getD r default).act = true → cmpB cl (ord.getD q 0) (ord.getD r 0) = false := by
         intro r h1 h2 h3
         have hrn : r < ops.size := Nat.lt_of_lt_of_le h2 I'.sn
         cases h : cmpB cl (ord.getD q 0) (ord.getD r 0) with
         | false => rfl
         | true => exact absurd (I'.behind S hrn ((I'.acts r hrn h3).2 h2) h) R.un
       rcases hc with hc | hc
       · have h0 := cls0 hc hv
         rw [h0] at hv
         have hvs := S.chain0 I'.sn hs1 hop hc hg hv hE hcmp (fun r hr => I'.wf r (Nat.le_of_lt hr) _ (Nat.le_refl _)) s1 (Nat.le_of_lt hs1) (Nat.le_refl _)
         have hvs : vop vo EL (Hs s1) = some (v, Hs s1) := by rw [← hvs]; exact vop_congr fun x hx => hev x (by rw [hop]; exact hx)
         obtain ⟨nx, w', j', hr', hn, hvo, hp⟩ := vop_sound (o := o) I.rel I'.post.sim hrv hvs
         have hDe : Dnew (DL ord Hs ops.size D L) (Hs s1) (Hs s1) = Dnew (DL ord Hs ops.size D L) (Hs q) (Hs (q + 1)) := by rw [Dnew_same rfl, Dnew_same h0]
         have hpost := I'.post.step hp hlt
         rw [hDe] at hvo hpost
         unfold Oper.wp
         rw [hr']
         rcases hn with rfl | ⟨rfl, rfl⟩
         · rw [Oper.upon_value]
           refine hK _ _ _ _ _ (I'.next S R hE (.inl ⟨rfl, hs1, ha⟩) ?_ (by rw [put_defers']; exact I.dfr) hpost)
           rw [← hdst]
           exact (I.rel.mono (fun _ => .inl) hp.agr).put hd hvo
         · rw [Oper.upon_skip]
           refine hK _ _ _ _ _ (I'.next S R hE (.inl ⟨rfl, hs1, ha⟩) ?_ (by rw [put_defers']; exact I.dfr) hpost)
           rw [← hdst]
           exact (I.rel.mono (fun _ => .inl) hp.agr).put (v := .tu []) hd hvo
       · obtain ⟨m, t, hm, hml, hms, hrun⟩ := alo_run (w := w) I.rel hc hrv hvL
         have hvv : v = .pt (Hs q).nx 0 ∨ ∃ n c, v = .sl (Hs q).nx 0 n c := by
           rcases hrun with ⟨h, _⟩ | ⟨n, c, h, _⟩
           · exact .inl h
           · exact .inr ⟨n, c, h⟩
         obtain ⟨hg1, hg2⟩ := S.chain1 I'.sn hop hc hg hm hvv hE hcmp I'.ev s1 hs1 (Nat.le_refl _)
         have nxm : ∀ p, p ≤ s1 → ∀ r, r ≤ p → (Hs r).nx ≤ (Hs p).nx := by
           intro p
           induction p with
           | zero => intro _ r hr; obtain rfl : r = 0 := by omega
                     exact Nat.le_refl _
           | succ p ih =>
             intro hp r hr
             rcases Nat.lt_or_ge p r with h | h
             · obtain rfl : r = p + 1 := by omega
               exact Nat.le_refl _
             · exact Nat.le_trans (ih (by omega) r h) (I'.ev p hp).nx
         have hnD : ¬ DL ord Hs ops.size D L (Hs q).nx := by
           rintro (h | ⟨p, hp, hl, h1, h2⟩)
           · have := hlt _ h
             have := nxm q (Nat.le_of_lt hs1) 0 (Nat.zero_le _)
             rw [hH] at this
             omega
           · have hps := I'.low p hp hl
             rcases Nat.lt_trichotomy p q with h | h | h
             · have := nxm q (Nat.le_of_lt hs1) (p + 1) h
               omega
             · subst h; exact R.un hl
             · have := nxm p (Nat.le_of_lt hps) (q + 1) h
               rw [hm] at this
               simp only [AH.al] at this
               omega
         have hgrow := I'.post.grow (t := t) hnD hg2 hg1 hml hms
         have hDe : (fun b => DL ord Hs ops.size D L b ∨ b = (Hs q).nx) = Dnew (DL ord Hs ops.size D L) (Hs q) (Hs (q + 1)) := by
           funext b
           apply propext
           unfold Dnew
           rw [hm]
           simp only [AH.al]
           exact or_congr Iff.rfl ⟨fun h => by omega, fun h => by omega⟩
         rw [hDe] at hgrow
         have hj : ∀ b, DL ord Hs ops.size D L b → j.put (Hs q).nx (.new w.heap.size m.length) b = j b := fun b hb => by
           simp only [Inj.put]; rw [if_neg]; rintro rfl; exact hnD hb
         have hbn : Dnew (DL ord Hs ops.size D L) (Hs q) (Hs (q + 1)) (Hs q).nx := .inr ⟨Nat.le_refl _, by rw [hm]; simp [AH.al]⟩
         unfold Oper.wp
         rcases hrun with ⟨rfl, hr'⟩ | ⟨n, c, rfl, hr'⟩
         · rw [hr', Oper.upon_value]
           refine hK _ _ _ _ _ (I'.next S R hE (.inl ⟨rfl, hs1, ha⟩) ?_ (by rw [put_defers']; exact I.dfr) hgrow)
           rw [← hdst]
           have := (I.rel.mono (D' := Dnew (DL ord Hs ops.size D L) (Hs q) (Hs (q + 1))) (fun _ => .inl) hj).put (v := .pt (Hs q).nx 0) hd hbn
           simpa [AV.con, Inj.put, at_new] using this
         · rw [hr', Oper.upon_value]
           refine hK _ _ _ _ _ (I'.next S R hE (.inl ⟨rfl, hs1, ha⟩) ?_ (by rw [put_defers']; exact I.dfr) hgrow)
           rw [← hdst]
           have := (I.rel.mono (D' := Dnew (DL ord Hs ops.size D L) (Hs q) (Hs (q + 1))) (fun _ => .inl) hj).put (v := .sl (Hs q).nx 0 n c) hd hbn
           simpa [AV.con, Inj.put, at_new] using this
   | call f args =>
     rw [hop] at hst hres
     obtain ⟨v, hcall, hE, hck⟩ := hst
     have ha : (l.getD q default).act = true := by unfold ROper.act; rw [hop]
     have hvals : vals EL args = vals (Es q) args := vals_congr fun x hx => hev x (by rw [hop]; exact hx)
     obtain ⟨h1, h2⟩ := resP_call (w := w) I.rel hres
     rw [hvals] at h1 h2
     exact call f _ v ha hcall hE h1 h2
   | calv c args =>
     rw [hop] at hst hres
     obtain ⟨f, as, v, hfun, ⟨fn, hf, hb⟩, hcall, hE, hck⟩ := hst
     have ha : (l.getD q default).act = true := by unfold ROper.act; rw [hop]
     have hvals : vals EL args = vals (Es q) args := vals_congr fun x hx => hev x (by rw [hop]; exact List.mem_cons_of_mem _ hx)
     have hc' : Go.AX.ev EL c = Go.AX.ev (Es q) c := hev c (by rw [hop]; exact List.mem_cons_self)
     rw [← hvals, ← hc'] at hfun
     obtain ⟨h1, h2⟩ := resP_calv (w := w) I.rel hres hfun hf hb
     exact call f _ v ha hcall hE h1 h2
   | pan x => rw [hop] at hst; exact hst.elim
   | dfr x args => rw [hop] at hst; exact hst.elim
 · subst hgf
   obtain ⟨hE, hHe⟩ := st.off hg
   simp only at hE
   have hDe : Dnew (DL ord Hs ops.size D L) (Hs q) (Hs (q + 1)) = DL ord Hs ops.size D L := Dnew_same hHe
   have hrel : Rel nt (Dnew (DL ord Hs ops.size D L) (Hs q) (Hs (q + 1))) j (EL.put (l.getD q default).d (.tu [])) (a.put o.dst undef).tmps := by
     rw [hDe, ← hdst]; exact I.rel.put (v := .tu []) hd (by simp [AV.ok, AV.okL])
   cases ha : (l.getD q default).act with
   | true =>
     have I' := toQ ha
     refine hK _ _ _ _ _ (I'.next S R hE (.inr ⟨rfl, rfl, by rw [hHe]; exact Evo.refl _, by rw [hHe]; exact I'.post.sim.wf⟩) hrel (by rw [put_defers']; exact I.dfr) ?_)
     rw [hDe, hHe]; exact I'.post
   | false =>
     obtain ⟨s1, hs1, I'⟩ := past ha
     refine hK _ _ _ _ _ (I'.next S R hE (.inl ⟨rfl, hs1, ha⟩) hrel (by rw [put_defers']; exact I.dfr) ?_)
     rw [hDe]; exact I'.post
def cnt (f : Nat → Bool) : Nat → Nat
 | 0 => 0
 | n + 1 => cnt f n + if f n = true then 1 else 0
theorem cnt_le {f g : Nat → Bool} : ∀ {n : Nat}, (∀ i, i < n → g i = true → f i = true) → cnt g n ≤ cnt f n
 | 0, _ => Nat.le_refl _
 | n + 1, h => by
  have ih := cnt_le (n := n) fun i hi => h i (Nat.lt_succ_of_lt hi)
  simp only [cnt]
  by_cases hg : g n = true
  ·rw [if_pos hg, if_pos (h n (Nat.lt_succ_self n) hg)]; omega
  ·rw [if_neg hg]; omega
theorem cnt_lt {f g : Nat → Bool} {k : Nat} : ∀ {n : Nat}, (∀ i, i < n → g i = true → f i = true) → k < n → f k = true → g k = false → cnt g n < cnt f n
 | 0, _, hk, _, _ => absurd hk (Nat.not_lt_zero _)
 | n + 1, h, hk, hf, hg => by
  simp only [cnt]
  rcases Nat.lt_or_ge k n with h' | h'
  ·have ih := cnt_lt (n := n) (fun i hi => h i (Nat.lt_succ_of_lt hi)) h' hf hg
   by_cases hg : g n = true
   ·rw [if_pos hg, if_pos (h n (Nat.lt_succ_self n) hg)]; omega
   ·rw [if_neg hg]; omega
  ·obtain rfl : k = n := by omega
   have ih := cnt_le (n := k) fun i hi => h i (Nat.lt_succ_of_lt hi)
   rw [if_pos hf, if_neg (by simp [hg])]; omega
theorem cnt_zero {f : Nat → Bool} : ∀ {n : Nat}, cnt f n = 0 → ∀ i, i < n → f i = false
 | 0, _, i, hi => absurd hi (Nat.not_lt_zero _)
 | n + 1, h, i, hi => by
  simp only [cnt, Nat.add_eq_zero_iff] at h
  rcases Nat.lt_or_ge i n with h' | h'
  ·exact cnt_zero h.1 i h'
  ·obtain rfl : i = n := by omega
   cases hf : f i with
   | false => rfl
   | true => rw [if_pos hf] at h; exact absurd h.2 (by decide)
theorem getD_tf {L : Array Bool} {i : Nat} (h : i < L.size) : L.getD i true = L.getD i false := by simp [Array.getD, h]
theorem rdy_of (G : Good ops cl ord l) (hL : L.size = ops.size) {i : Nat} (h : i ∈ Region.ready .any ops L) : ∃ q, ord.getD q 0 = i ∧ Rdy ops ord L q := by
 unfold Region.ready at h
 obtain ⟨h1, h2⟩ := List.mem_filter.1 h
 have hi := List.mem_range.1 h1
 simp only [Bool.and_eq_true, Bool.not_eq_true'] at h2
 obtain ⟨q, hq, rfl⟩ := G.sur i hi
 refine ⟨q, rfl, hq, fun hl => ?_, fun e he hb => ?_⟩
 ·rw [getD_tf (by omega)] at h2
  unfold lst at hl
  rw [hl] at h2
  exact absurd h2.1 (by decide)
 ·have h3 := h2.2
  have hget : ops[ord.getD q 0]? = some (ops.getD (ord.getD q 0) default) := by
   rw [Array.getD_eq_getD_getElem?]
   rw [Array.getElem?_eq_getElem hi]; rfl
  rw [hget] at h3
  simp only [Option.map_some, Option.getD_some] at h3
  rw [← Array.all_toList, List.all_eq_true] at h3
  have := h3 e he
  rw [hb] at this
  exact this
theorem rdy_in (hL : L.size = ops.size) {i : Nat} (hi : i < ops.size) (hn : ¬ lst L i) (hp : ∀ e ∈ (ops.getD i default).after.toList, Region.binds .any e = true → lst L e.on) : i ∈ Region.ready .any ops L := by
 unfold Region.ready
 refine List.mem_filter.2 ⟨List.mem_range.2 hi, ?_⟩
 have hget : ops[i]? = some (ops.getD i default) := by
  rw [Array.getD_eq_getD_getElem?, Array.getElem?_eq_getElem hi]; rfl
 rw [hget]
 simp only [Option.map_some, Option.getD_some, Bool.and_eq_true, Bool.not_eq_true']
 refine ⟨?_, ?_⟩
 ·rw [getD_tf (by omega)]
  unfold lst at hn
  simpa using hn
 ·rw [← Array.all_toList, List.all_eq_true]
  intro e he
  cases hb : Region.binds .any e with
  | false => rfl
  | true => exact hp e he hb
theorem done_all (G : Good ops cl ord l) (hL : L.size = ops.size) (h : Region.ready .any ops L = []) : ∀ i, i < ops.size → lst L i := by
 intro i
 induction i using Nat.strongRecOn with
 | _ i ih =>
  intro hi
  by_cases hl : lst L i
  ·exact hl
  ·have := rdy_in hL hi hl fun e he hb => ih e.on (G.edge i hi e he hb) (by have := G.edge i hi e he hb; omega)
   rw [h] at this; cases this
def DEnd (nt : Nat) (ops : Array Oper) (ord : List Nat) (l : List ROper) (Es : Nat → Env) (Hs : Nat → AH) (base : Nat) (D : Nat → Prop) (j0 : Inj) (H : AH) (w0 : World) (dd : List Deferred) (e : Exit) (a : Act) (w : World) : Prop :=
 e = .normal ∧ ∃ L s j EL, Inv nt ops ord l Es Hs base D j0 H w0 dd L s a w j EL ∧ ∀ i, i < ops.size → lst L i
theorem any_runs (S : DSet P nt ops cl ord l Es Hs) (hlt : ∀ b, D b → b < H.nx) (hH : Hs 0 = H) : ∀ (fuel : Nat) (L : Array Bool) (s : Nat) (a : Act) (w : World) (j : Inj) (EL : Env),
  Inv nt ops ord l Es Hs base D j0 H w0 dd L s a w j EL → cnt (fun i => !L.getD i false) ops.size ≤ fuel → wpAny P .any ops (DEnd nt ops ord l Es Hs base D j0 H w0 dd) fuel L a w := by
 intro fuel
 induction fuel with
 | zero =>
  intro L s a w j EL I hc
  have hall : ∀ i, i < ops.size → lst L i := fun i hi => by
   have := cnt_zero (Nat.le_zero.1 hc) i hi
   simpa [lst] using this
  refine ⟨?_, rfl, L, s, j, EL, I, hall⟩
  apply List.eq_nil_iff_forall_not_mem.2
  intro i hi
  obtain ⟨q, rfl, R⟩ := rdy_of S.G I.size hi
  exact R.un (hall _ (S.G.bnd q R.lt))
 | succ fuel ih =>
  intro L s a w j EL I hc
  refine ⟨fun h => ⟨rfl, L, s, j, EL, I, done_all S.G I.size h⟩, fun i hi => ?_⟩
  obtain ⟨q, rfl, R⟩ := rdy_of S.G I.size hi
  refine I.op S hlt hH R fun s' a' w' j' EL' I' => ih _ s' a' w' j' EL' I' ?_
  have hb := S.G.bnd q R.lt
  refine Nat.le_of_lt_succ (Nat.lt_of_lt_of_le (cnt_lt (k := ord.getD q 0) ?_ hb ?_ ?_) hc)
  ·intro i hi h
   simp only [Bool.not_eq_true'] at h ⊢
   cases hL : L.getD i false with
   | false => rfl
   | true =>
    have := (lst_set (L := L) (i := ord.getD q 0) (k := i) (by rw [I.size]; exact hb)).2 (.inl hL)
    unfold lst at this
    rw [this] at h; cases h
  ·have := R.un
   unfold lst at this
   simpa using this
  ·have := (lst_set (L := L) (i := ord.getD q 0) (k := ord.getD q 0) (by rw [I.size]; exact hb)).2 (.inr rfl)
   unfold lst at this
   simp only [this, Bool.not_true]
end
section
variable {P : Program} {nt : Nat} {ops : Array Oper} {cl ord : List Nat} {l : List ROper} {Es : Nat → Env} {Hs : Nat → AH}
variable {base : Nat} {D : Nat → Prop} {j : Inj} {H H' : AH} {w : World} {E E' : Env} {a : Act}
theorem draw_any (S : DSet P nt ops cl ord l Es Hs) (hm : P.follows .mixedOrders = true) {id : Nat} (hE0 : Es 0 = E) (hH0 : Hs 0 = H) (hEn : Es ops.size = E') (hHn : Hs ops.size = H') (Sm : Sim base D j H w) (R : Rel nt D j E a.tmps) :
  (Code.region id ops true).wp P (fun e a' w' => e = .normal ∧ ∃ j', Post base D j H w H' w' j' ∧ Rel nt (Dnew D H H') j' E' a'.tmps ∧ a'.defers = a.defers) a w := by
 have hl0 : ∀ i, ¬ lst (Array.replicate ops.size false) i := fun i h => by
  unfold lst at h
  simp only [Array.getD_eq_getD_getElem?, Array.getElem?_replicate] at h
  split at h <;> simp at h
 have hD0 : DL ord Hs ops.size D (Array.replicate ops.size false) = D := by
  funext b
  apply propext
  unfold DL
  exact ⟨fun h => h.elim (fun h => h) fun ⟨p, _, h, _⟩ => absurd h (hl0 _), .inl⟩
 have I0 : Inv nt ops ord l Es Hs base D j H w a.defers (Array.replicate ops.size false) 0 a { w with drawn := w.drawn + 1 } j E := by
  refine ⟨by simp, fun i _ h => absurd h (hl0 i), Nat.zero_le _, fun p _ _ => ⟨fun h => absurd h (hl0 _), fun h => absurd h (Nat.not_lt_zero _)⟩, fun p _ h => absurd h (hl0 _), fun r h => absurd h (Nat.not_lt_zero _), ?_, ?_, by rw [hD0]; exact R, rfl, ?_⟩
  ·intro r hr
   obtain rfl : r = 0 := by omega
   rw [hH0]; exact Sm.wf
  ·intro p hp t ht
   rw [← hE0]
   refine (S.same (Nat.zero_le p) hp fun s _ hs hd => ?_).symm
   exact absurd ((ht s (by omega) hd).2 hs) (hl0 _)
  ·rw [hD0, hH0]
   exact ⟨Evo.refl H, fun _ _ => rfl, fun _ h => h, ⟨Sm.lt, Sm.wf, Sm.size, Sm.ro, Sm.rw, Sm.mp, Sm.inj⟩, ⟨rfl, rfl, rfl, Nat.le_refl _, fun _ _ _ => rfl⟩, fun b h1 h2 _ => absurd h1 h2⟩
 have hc : cnt (fun i => !(Array.replicate ops.size false).getD i false) ops.size ≤ ops.size := by
  have : ∀ (f : Nat → Bool) n, cnt f n ≤ n := by
   intro f n
   induction n with
   | zero => exact Nat.le_refl _
   | succ n ih => simp only [cnt]; split <;> omega
  exact this _ _
 refine Code.wp_mono ?_ (wp_region_any hm (any_runs S Sm.lt hH0 ops.size _ 0 a _ j E I0 hc))
 rintro e a' w' ⟨rfl, L, s, j', EL, I, hall⟩
 have hal : ∀ p, p < ops.size → lst L (ord.getD p 0) := fun p hp => hall _ (S.G.bnd p hp)
 have I' := I.raise S Sm.lt I.sn (Nat.le_refl _) fun r h1 h2 => by
  cases ha : (l.getD r default).act with
  | false => rfl
  | true => have := (I.acts r h2 ha).1 (hal r h2); omega
 have nxm : ∀ p, p ≤ ops.size → (Hs 0).nx ≤ (Hs p).nx ∧ ∀ b, (Hs 0).nx ≤ b → b < (Hs p).nx → ∃ q, q < p ∧ (Hs q).nx ≤ b ∧ b < (Hs (q + 1)).nx := by
  intro p
  induction p with
  | zero => intro _; exact ⟨Nat.le_refl _, fun b h1 h2 => by omega⟩
  | succ p ih =>
   intro hp
   obtain ⟨h1, h2⟩ := ih (by omega)
   have h3 := (I'.ev p hp).nx
   refine ⟨Nat.le_trans h1 h3, fun b hb1 hb2 => ?_⟩
   rcases Nat.lt_or_ge b (Hs p).nx with h | h
   ·obtain ⟨q, hq, hq2⟩ := h2 b hb1 h
    exact ⟨q, Nat.lt_succ_of_lt hq, hq2⟩
   ·exact ⟨p, Nat.lt_succ_self p, h, hb2⟩
 have nx0 : ∀ p, p ≤ ops.size → (Hs p).nx ≤ (Hs ops.size).nx := by
  intro p hp
  have : ∀ k, p + k ≤ ops.size → (Hs p).nx ≤ (Hs (p + k)).nx := by
   intro k
   induction k with
   | zero => intro _; exact Nat.le_refl _
   | succ k ih => intro hk; exact Nat.le_trans (ih (by omega)) (I'.ev (p + k) (by omega)).nx
  have := this (ops.size - p) (by omega)
  rw [Nat.add_sub_cancel' hp] at this
  exact this
 have hDL : DL ord Hs ops.size D L = Dnew D H H' := by
  funext b
  apply propext
  unfold DL Dnew
  rw [← hH0, ← hHn]
  constructor
  ·rintro (h | ⟨p, hp, _, h1, h2⟩)
   ·exact .inl h
   ·exact .inr ⟨Nat.le_trans (nxm p (Nat.le_of_lt hp)).1 h1, Nat.lt_of_lt_of_le h2 (nx0 (p + 1) hp)⟩
  ·rintro (h | ⟨h1, h2⟩)
   ·exact .inl h
   ·obtain ⟨q, hq, h3, h4⟩ := (nxm ops.size (Nat.le_refl _)).2 b h1 h2
    exact .inr ⟨q, hq, hal q hq, h3, h4⟩
 have hEL : EL = E' := by
  rw [← hEn]
  funext t
  exact I'.val ops.size (Nat.le_refl _) t fun p hp _ => ⟨fun _ => hp, fun _ => hal p hp⟩
 have hp := I'.post
 have hr := I'.rel
 rw [hDL] at hp hr
 rw [hHn] at hp
 rw [hEL] at hr
 refine ⟨rfl, j', ⟨hp.evo, hp.agr, hp.sim, hp.fr, fun b h1 h2 hno => ?_⟩, hr, I'.dfr⟩
 exact hp.fresh b (.inr ⟨h1, h2⟩) (fun h => by have := Sm.lt b h; omega) hno
end
end Go.AX
end
section
namespace Go.AX
open Go
section
variable {P : Program} {nt : Nat}
theorem resOps_get {ops : Array Oper} : ∀ (l0 : List Oper) (l1 : List ROper), resOps P nt ops l0 = some l1 → l1.length = l0.length ∧ ∀ q o, l0[q]? = some o → resR P nt ops o = some (l1.getD q default)
 | [], l1, h => by
  simp only [resOps, Option.some.injEq] at h; subst h
  exact ⟨rfl, fun q o h => by simp at h⟩
 | o :: r, l1, h => by
  simp only [resOps, Option.bind_eq_some_iff, Option.map_eq_some_iff] at h
  obtain ⟨x, hx, l2, hl2, rfl⟩ := h
  obtain ⟨h1, h2⟩ := resOps_get r l2 hl2
  refine ⟨by simp [h1], fun q o' hq => ?_⟩
  cases q with
  | zero =>
   simp only [List.getElem?_cons_zero, Option.some.injEq] at hq
   subst hq; exact hx
  | succ q =>
   simp only [List.getElem?_cons_succ] at hq
   exact h2 q o' hq
theorem draw_steps {ops : Array Oper} {id : Nat} {L : List DOp} (hL : resD P nt ops = some L) {E E' : Env} {H H' : AH} (h : DT P L E H E' H') {base : Nat} {D : Nat → Prop} {j : Inj} {w : World} {a : Act}
  (Sm : Sim base D j H w) (R : Rel nt D j E a.tmps) (b : Frame) (t : List Item) (cs : List Frame) :
  ∃ a' w' j', Post base D j H w H' w' j' ∧ Rel nt (Dnew D H H') j' E' a'.tmps ∧ a'.defers = a.defers ∧ Steps P (lone (b.at a (.code (.region id ops true) :: t)) cs w) (lone (b.at a' t) cs w') := by
 unfold resD at hL
 split at hL
 ·rename_i hm
  obtain ⟨l0, h0, hL⟩ := Option.bind_eq_some_iff.1 hL
  generalize mkCl ops.toList [] = cl at hL
  generalize greedy (l0.zip (ops.toList.map preE)) ops.size 0 = ord at hL
  unfold resD1 resD2 at hL
  split at hL
  ·rename_i hok
   simp only [Option.some.injEq] at hL; subst hL
   have G := Good.of hok
   obtain ⟨hl0, hg0⟩ := resOps_get _ _ h0
   obtain ⟨Es, Hs, e0, e1, e2, e3, hst⟩ := DT.funs h
   have hlen : (mkD cl ord (ord.map fun i => l0.getD i default)).length = ops.size := by
    have := G.lenL
    simp only [List.length_map] at this
    simp [mkD, this]
   rw [hlen] at e2 e3
   have S : DSet P nt ops cl ord (ord.map fun i => l0.getD i default) Es Hs := by
    refine ⟨G, fun p hp => hst p _ ?_, fun p hp => ?_⟩
    ·have hl := G.lenL
     unfold mkD
     rw [hl, List.getElem?_map, List.getElem?_range hp]; rfl
    ·have hb := G.bnd p hp
     refine ⟨ops[ord.getD p 0], Array.getElem?_eq_getElem hb, ?_⟩
     rw [hg0 (ord.getD p 0) ops[ord.getD p 0] (by simp)]
     have hpo : p < ord.length := by rw [G.lenO]; exact hp
     simp [List.getD_eq_getElem?_getD, hpo]
   obtain ⟨e, a', w', ⟨rfl, j', hp, hr, hd⟩, harr⟩ := draw_any (id := id) S hm e0 e1 e2 e3 Sm R b t cs
   exact ⟨a', w', j', hp, hr, hd, harr⟩
  ·cases hL
 ·cases hL
theorem runs_op (R : Fin) (n : Nat) (ih : ∀ k E H ds, XF P R n k E H ds → ∃ out E' H' ds', R out E' H' ds' ∧ RunsTo P nt k E H ds out E' H' ds') (o : ROper) (l : List ROper) (k : List It) (E : Env) (H : AH) (ds : List ADef)
  (h : XF P R (n + 1) (.o (o :: l) :: k) E H ds) : ∃ out E' H' ds', R out E' H' ds' ∧ RunsTo P nt (.o (o :: l) :: k) E H ds out E' H' ds' := by
 simp only [XF] at h
 obtain ⟨g, hg, h⟩ := h
 have open_ : ∀ t, Cor P nt (.o (o :: l) :: k) t → ∃ ops i rest t' oo, t = .inRegion ops (i :: rest) :: t' ∧ ops[i]? = some oo ∧ dstOk nt oo.dst = true ∧ oo.dst = o.d ∧ resG ops oo.guard = some o.g ∧ dstOk nt (o.g.map (·.1)) = true ∧ resP P nt oo = some o.o ∧
   Cor P nt (.o l :: k) (.inRegion ops rest :: t') := by
  intro t hc
  cases hc with
  | @o ops ix l' k' t' hf hk =>
   cases hf with
   | @cons i ro ix' l'' h1 h2 =>
    obtain ⟨oo, ho, hr⟩ := h1
    simp only [resR] at hr
    split at hr
    ·rename_i hd
     simp only [Option.bind_eq_some_iff] at hr
     obtain ⟨g', hg', hr⟩ := hr
     split at hr
     ·rename_i hgd
      obtain ⟨r, hr', he⟩ := Option.map_eq_some_iff.1 hr
      subst he
      exact ⟨ops, i, ix', t', oo, rfl, ho, hd, rfl, hg', hgd, hr', .o h2 hk⟩
     ·cases hr
    ·cases hr
 cases g with
 | false =>
  simp only [Bool.false_eq_true, if_false] at h
  obtain ⟨out, E', H', ds', hR, hrun⟩ := ih _ _ _ _ h
  refine ⟨out, E', H', ds', hR, hrun.after ?_⟩
  intro base D j w a b cs t hc S Rl DR
  obtain ⟨ops, i, rest, t', oo, rfl, ho, hd, hdst, hgr, hgd, hres, hc1⟩ := open_ t hc
  have hw := wanted_run Rl hgr hgd hg
  refine ⟨a.put oo.dst undef, w, j, _, hc1, Post.refl S, ?_, ?_, .one (step_unwanted ho hw)⟩
  ·rw [← hdst]; exact (Rl.mono (fun _ => .inl) (fun _ _ => rfl)).put (v := .tu []) hd (by simp [AV.ok, AV.okL])
  ·have : (a.put oo.dst undef).defers = a.defers := by cases oo.dst <;> rfl
   rw [this]; exact DR.mono (fun _ => .inl) (fun _ _ => rfl)
 | true =>
  simp only [if_true] at h
  have putD : ∀ (a : Act) (d : Option Tmp) (v : Value), (a.put d v).defers = a.defers := fun a d v => by cases d <;> rfl
  have call : ∀ (f : FuncId) (as : List AV) (r : AEnd) (H1 : AH), CallT P f as H r H1 → AtEnd R (XF P R n) r o.d l k E H1 ds →
    (∀ D j (a : Act) (oo : Oper) w, Rel nt D j E a.tmps → resP P nt oo = some o.o → (execOp a.eval oo).run P w = .ok (.enter f (AV.conL j as).toArray) w ∧ AV.okL D as) →
    ∃ out E' H' ds', R out E' H' ds' ∧ RunsTo P nt (.o (o :: l) :: k) E H ds out E' H' ds' := by
   intro f as r H1 hcall hend hex
   cases r with
   | ret v =>
    simp only [AtEnd] at hend
    obtain ⟨out, E', H', ds', hR, hrun⟩ := ih _ _ _ _ hend
    refine ⟨out, E', H', ds', hR, hrun.after ?_⟩
    intro base D j w a b cs t hc S Rl DR
    obtain ⟨ops, i, rest, t', oo, rfl, ho, hd, hdst, hgr, hgd, hres, hc1⟩ := open_ t hc
    have hw := wanted_run Rl hgr hgd hg
    obtain ⟨he, hok⟩ := hex D j a oo w Rl hres
    rcases step_call (b := b) (k := t') (cs := cs) (rest := rest) ho hw he (hcall base D j w S hok) (fun w' hq => by obtain ⟨_, he, _⟩ := hq; cases he) with ⟨v', w', ⟨j', hv, hvo, hp⟩, hst⟩ | ⟨ch, w', ⟨j', hv, _⟩, _⟩
    ·simp only [AEnd.con, Ending.returned.injEq] at hv
     subst hv
     refine ⟨a.put oo.dst (v.con j'), w', j', _, hc1, hp, ?_, ?_, hst⟩
     ·rw [← hdst]; exact (Rl.mono (fun _ => .inl) hp.agr).put hd hvo
     ·rw [putD]; exact DR.mono (fun _ => .inl) hp.agr
    ·simp [AEnd.con] at hv
   | pan p =>
    simp only [AtEnd] at hend
    refine ⟨_, _, _, _, hend, ?_⟩
    intro base D j w a b cs t hc S Rl DR
    obtain ⟨ops, i, rest, t', oo, rfl, ho, hd, hdst, hgr, hgd, hres, hc1⟩ := open_ t hc
    have hw := wanted_run Rl hgr hgd hg
    obtain ⟨he, hok⟩ := hex D j a oo w Rl hres
    rcases step_call (b := b) (k := t') (cs := cs) (rest := rest) ho hw he (hcall base D j w S hok) (fun w' hq => by obtain ⟨_, he, _⟩ := hq; cases he) with ⟨v', w', ⟨j', hv, hvo, hp⟩, hst⟩ | ⟨ch, w', ⟨j', hv, hvo, hp⟩, hst⟩
    ·simp [AEnd.con] at hv
    ·simp only [AEnd.con, Ending.panicked.injEq] at hv
     subst hv
     exact ⟨a, w', j', hp, Rl.mono (fun _ => .inl) hp.agr, DR.mono (fun _ => .inl) hp.agr, hvo, _, hst⟩
  cases hop : o.o with
  | v vo =>
   rw [hop] at h
   obtain ⟨v, H1, hv, h⟩ := h
   obtain ⟨out, E', H', ds', hR, hrun⟩ := ih _ _ _ _ h
   refine ⟨out, E', H', ds', hR, hrun.after ?_⟩
   intro base D j w a b cs t hc S Rl DR
   obtain ⟨ops, i, rest, t', oo, rfl, ho, hd, hdst, hgr, hgd, hres, hc1⟩ := open_ t hc
   have hw := wanted_run Rl hgr hgd hg
   rw [hop] at hres
   have hrv : resV P nt oo = some vo := by
    unfold resP at hres
    split at hres
    ·split at hres
     ·split at hres
      ·obtain ⟨q, hq, he⟩ := Option.map_eq_some_iff.1 hres; cases he
      ·cases hres
     ·cases hres
    ·simp only [Option.bind_eq_some_iff, Option.map_eq_some_iff] at hres
     obtain ⟨_, _, _, _, he⟩ := hres; cases he
    ·obtain ⟨q, hq, he⟩ := Option.map_eq_some_iff.1 hres; cases he
    ·simp only [Option.bind_eq_some_iff, Option.map_eq_some_iff] at hres
     obtain ⟨_, _, _, _, he⟩ := hres; cases he
    ·obtain ⟨q, hq, he⟩ := Option.map_eq_some_iff.1 hres
     simp only [ROp.v.injEq] at he; subst he; exact hq
   obtain ⟨nx, w', j', hr, hn, hvo, hp⟩ := vop_sound (o := oo) Rl S hrv hv
   rcases hn with rfl | ⟨rfl, rfl⟩
   ·refine ⟨a.put oo.dst (v.con j'), w', j', _, hc1, hp, ?_, ?_, .one (step_value ho hw hr)⟩
    ·rw [← hdst]; exact (Rl.mono (fun _ => .inl) hp.agr).put hd hvo
    ·rw [putD]; exact DR.mono (fun _ => .inl) hp.agr
   ·refine ⟨a.put oo.dst undef, w', j', _, hc1, hp, ?_, ?_, .one (step_skipv ho hw hr)⟩
    ·rw [← hdst]; exact (Rl.mono (fun _ => .inl) hp.agr).put (v := .tu []) hd hvo
    ·rw [putD]; exact DR.mono (fun _ => .inl) hp.agr
  | call f args =>
   rw [hop] at h
   obtain ⟨r, H1, hcall, hend⟩ := h
   refine call f _ r H1 hcall hend ?_
   intro D j a oo w Rl hres
   rw [hop] at hres
   unfold resP at hres
   split at hres
   ·rename_i f' args' at' hq
    split at hres
    ·rename_i fn hf
     split at hres
     ·rename_i hb
      obtain ⟨as, has, he⟩ := Option.map_eq_some_iff.1 hres
      simp only [ROp.call.injEq] at he
      obtain ⟨rfl, rfl⟩ := he
      obtain ⟨r1, r2⟩ := resL_arr Rl has
      refine ⟨?_, r2⟩
      simp only [execOp, hq, resolve, Sem.run_bind, Act.eval, Deferred.ofValue, Sem.run_pure, Result.andThen_ok, invoke, Array.empty_append, Array.append_empty]
      rw [show (Array.map (fun x => a.eval x) args') = _ from r1]
      exact callFunc_run hf hb
     ·cases hres
    ·cases hres
   ·simp only [Option.bind_eq_some_iff, Option.map_eq_some_iff] at hres
    obtain ⟨_, _, _, _, he⟩ := hres; cases he
   ·obtain ⟨q, hq, he⟩ := Option.map_eq_some_iff.1 hres; cases he
   ·simp only [Option.bind_eq_some_iff, Option.map_eq_some_iff] at hres
    obtain ⟨_, _, _, _, he⟩ := hres; cases he
   ·obtain ⟨q, hq, he⟩ := Option.map_eq_some_iff.1 hres; cases he
  | calv x args =>
   rw [hop] at h
   obtain ⟨f, as, hfun, ⟨fn, hf, hb⟩, r, H1, hcall, hend⟩ := h
   refine call f as r H1 hcall hend ?_
   intro D j a oo w Rl hres
   rw [hop] at hres
   unfold resP at hres
   split at hres
   ·split at hres
    ·split at hres
     ·obtain ⟨q, hq, he⟩ := Option.map_eq_some_iff.1 hres; cases he
     ·cases hres
    ·cases hres
   ·rename_i x0 args' at' hne hq
    simp only [Option.bind_eq_some_iff, Option.map_eq_some_iff] at hres
    obtain ⟨x', hx, as', has, he⟩ := hres
    simp only [ROp.calv.injEq] at he
    obtain ⟨rfl, rfl⟩ := he
    obtain ⟨x1, x2⟩ := Rl.ev hx
    obtain ⟨r1, r2⟩ := resL_arr Rl has
    generalize ev E x' = u at *
    unfold funOf at hfun
    split at hfun
    ·rename_i f' p c
     simp only [Option.some.injEq, Prod.mk.injEq] at hfun
     obtain ⟨rfl, rfl⟩ := hfun
     refine ⟨?_, ?_⟩
     ·simp only [execOp, hq, resolve, Sem.run_bind, x1, AV.con, Deferred.ofValue, Sem.run_pure, Result.andThen_ok, invoke]
      rw [show (Array.map (fun x => a.eval x) args') = _ from r1]
      have : (AV.conL j p).toArray ++ (AV.conL j (vals E as')).toArray ++ (AV.conL j c).toArray = (AV.conL j (p ++ vals E as' ++ c)).toArray := by simp [conL_append]
      rw [this]
      exact callFunc_run hf hb
     ·exact okL_append (okL_append x2.1 r2) x2.2
    ·cases hfun
   ·obtain ⟨q, hq, he⟩ := Option.map_eq_some_iff.1 hres; cases he
   ·simp only [Option.bind_eq_some_iff, Option.map_eq_some_iff] at hres
    obtain ⟨_, _, _, _, he⟩ := hres; cases he
   ·obtain ⟨q, hq, he⟩ := Option.map_eq_some_iff.1 hres; cases he
  | pan x =>
   rw [hop] at h
   obtain ⟨ty, v, hx, hR⟩ := h
   refine ⟨_, _, _, _, hR, ?_⟩
   intro base D j w a b cs t hc S Rl DR
   obtain ⟨ops, i, rest, t', oo, rfl, ho, hd, hdst, hgr, hgd, hres, hc1⟩ := open_ t hc
   have hw := wanted_run Rl hgr hgd hg
   rw [hop] at hres
   have hq : ∃ x0, oo.op = .panic x0 ∧ resO nt x0 = some x := by
    unfold resP at hres
    split at hres
    ·split at hres
     ·split at hres
      ·obtain ⟨q, hq, he⟩ := Option.map_eq_some_iff.1 hres; cases he
      ·cases hres
     ·cases hres
    ·simp only [Option.bind_eq_some_iff, Option.map_eq_some_iff] at hres
     obtain ⟨_, _, _, _, he⟩ := hres; cases he
    ·rename_i x0 hq
     obtain ⟨q, hq', he⟩ := Option.map_eq_some_iff.1 hres
     simp only [ROp.pan.injEq] at he; subst he
     exact ⟨x0, hq, hq'⟩
    ·simp only [Option.bind_eq_some_iff, Option.map_eq_some_iff] at hres
     obtain ⟨_, _, _, _, he⟩ := hres; cases he
    ·obtain ⟨q, hq, he⟩ := Option.map_eq_some_iff.1 hres; cases he
   obtain ⟨x0, hq, hx0⟩ := hq
   obtain ⟨x1, x2⟩ := Rl.ev hx0
   rw [hx] at x1 x2
   have hr : (execOp a.eval oo).run P w = .halt (.panic ((AV.fc ty v).con j)) w := by
    simp [execOp, hq, Instr.panic, x1, AV.con, goPanic]
   refine ⟨a, w, j, Post.refl S, Rl.mono (fun _ => .inl) (fun _ _ => rfl), DR.mono (fun _ => .inl) (fun _ _ => rfl), ?_, _, .one (step_panic ho hw hr)⟩
   intro p hp
   simp only [List.mem_singleton] at hp
   subst hp
   exact ok_Dnew x2
  | dfr x args =>
   rw [hop] at h
   obtain ⟨f, as, hfun, h⟩ := h
   obtain ⟨out, E', H', ds', hR, hrun⟩ := ih _ _ _ _ h
   refine ⟨out, E', H', ds', hR, hrun.after ?_⟩
   intro base D j w a b cs t hc S Rl DR
   obtain ⟨ops, i, rest, t', oo, rfl, ho, hd, hdst, hgr, hgd, hres, hc1⟩ := open_ t hc
   have hw := wanted_run Rl hgr hgd hg
   rw [hop] at hres
   have hq : ∃ x0 args' at', oo.op = .defer { callee := .value x0, args := args', argTypes := at' } ∧ resO nt x0 = some x ∧ resL nt args'.toList = some args := by
    unfold resP at hres
    split at hres
    ·split at hres
     ·split at hres
      ·obtain ⟨q, hq, he⟩ := Option.map_eq_some_iff.1 hres; cases he
      ·cases hres
     ·cases hres
    ·simp only [Option.bind_eq_some_iff, Option.map_eq_some_iff] at hres
     obtain ⟨_, _, _, _, he⟩ := hres; cases he
    ·obtain ⟨q, hq, he⟩ := Option.map_eq_some_iff.1 hres; cases he
    ·rename_i x0 args' at' hq
     simp only [Option.bind_eq_some_iff, Option.map_eq_some_iff] at hres
     obtain ⟨x', hx, as', has, he⟩ := hres
     simp only [ROp.dfr.injEq] at he
     obtain ⟨rfl, rfl⟩ := he
     exact ⟨x0, args', at', hq, hx, has⟩
    ·obtain ⟨q, hq, he⟩ := Option.map_eq_some_iff.1 hres; cases he
   obtain ⟨x0, args', at', hq, hx, has⟩ := hq
   obtain ⟨x1, x2⟩ := Rl.ev hx
   obtain ⟨r1, r2⟩ := resL_arr Rl has
   generalize ev E x = u at *
   unfold funOf at hfun
   split at hfun
   ·rename_i f' p c
    simp only [Option.some.injEq, Prod.mk.injEq] at hfun
    obtain ⟨rfl, rfl⟩ := hfun
    have hr : (execOp a.eval oo).run P w = .ok (.defer { target := .fn (.func f') (AV.conL j c).toArray, args := (AV.conL j p).toArray ++ (AV.conL j (vals E args)).toArray }) w := by
     simp only [execOp, hq, resolve, Sem.run_bind, x1, AV.con, Deferred.ofValue, Sem.run_pure, Result.andThen_ok]
     rw [show (Array.map (fun x => a.eval x) args') = _ from r1]
    refine ⟨_, w, j, _, hc1, Post.refl S, ?_, ?_, .one (step_defer' ho hw hr)⟩
    ·rw [← hdst]; exact Rel.put (a := { a with defers := _ :: a.defers }) (Rl.mono (fun _ => .inl) (fun _ _ => rfl)) (v := .tu []) hd (by simp [AV.ok, AV.okL])
    ·rw [putD]
     refine .cons ⟨okL_mono (fun _ => .inl) _ (okL_append (okL_append x2.1 r2) x2.2), _, _, rfl, by simp [conL_append]⟩ (DR.mono (fun _ => .inl) (fun _ _ => rfl))
   ·cases hfun
theorem x_runs (R : Fin) : ∀ n k E H ds, XF P R n k E H ds → ∃ out E' H' ds', R out E' H' ds' ∧ RunsTo P nt k E H ds out E' H' ds' := by
 intro n
 induction n with
 | zero => intro k E H ds h; simp [XF] at h
 | succ n ih =>
  intro k E H ds h
  cases k with
  | nil =>
   simp only [XF] at h
   refine ⟨_, _, _, _, h, ?_⟩
   intro base D j w a b cs t hc S Rl DR
   cases hc
   exact ⟨a, w, j, Post.refl S, Rl.mono (fun _ => .inl) (fun _ _ => rfl), DR.mono (fun _ => .inl) (fun _ _ => rfl), trivial, _, .one step_end⟩
  | cons it k =>
   cases it with
   | blk id =>
    simp only [XF] at h
    obtain ⟨out, E', H', ds', hR, hrun⟩ := ih _ _ _ _ h
    refine ⟨out, E', H', ds', hR, hrun.step ?_⟩
    intro a b cs w t D j hc Rl
    cases hc with
    | blk hk => exact ⟨_, hk, step_inBlock⟩
   | lp c =>
    simp only [XF] at h
    obtain ⟨out, E', H', ds', hR, hrun⟩ := ih _ _ _ _ h
    refine ⟨out, E', H', ds', hR, hrun.step ?_⟩
    intro a b cs w t D j hc Rl
    cases hc with
    | lp h1 hk => exact ⟨_, .c h1 (.lp h1 hk), step_inLoop⟩
   | o l =>
    cases l with
    | nil =>
     simp only [XF] at h
     obtain ⟨out, E', H', ds', hR, hrun⟩ := ih _ _ _ _ h
     refine ⟨out, E', H', ds', hR, hrun.step ?_⟩
     intro a b cs w t D j hc Rl
     cases hc with
     | o hf hk =>
      cases hf
      exact ⟨_, hk, step_region_end⟩
    | cons o l => exact runs_op R n ih o l k E H ds h
   | c rc =>
    have one : ∀ {k1 : List It}, XF P R n k1 E H ds → (∀ (a : Act) (b : Frame) cs w t D j, Cor P nt (.c rc :: k) t → Rel nt D j E a.tmps → ∃ t1, Cor P nt k1 t1 ∧ step P (lone (b.at a t) cs w) = .next (lone (b.at a t1) cs w)) →
      ∃ out E' H' ds', R out E' H' ds' ∧ RunsTo P nt (.c rc :: k) E H ds out E' H' ds' := by
     intro k1 h1 hs
     obtain ⟨out, E', H', ds', hR, hrun⟩ := ih _ _ _ _ h1
     exact ⟨out, E', H', ds', hR, hrun.step hs⟩
    cases rc with
    | skip =>
     simp only [XF] at h
     refine one h ?_
     intro a b cs w t D j hc Rl
     cases hc with
     | @c c _ _ t' h1 hk =>
      cases c <;> simp only [resC, Option.some.injEq, reduceCtorEq, Option.bind_eq_some_iff, Option.map_eq_some_iff, and_false, exists_false] at h1
      ·exact ⟨_, hk, step_skip⟩
      ·split at h1 <;> simp at h1
    | reg l =>
     simp only [XF] at h
     refine one h ?_
     intro a b cs w t D j hc Rl
     cases hc with
     | @c c _ _ t' h1 hk =>
      cases c <;> simp only [resC, Option.some.injEq, reduceCtorEq, Option.bind_eq_some_iff, Option.map_eq_some_iff, and_false, exists_false] at h1
      rename_i id ops draw
      split at h1
      ·obtain ⟨_, _, he⟩ := Option.map_eq_some_iff.1 h1; cases he
      ·rename_i hd
       obtain ⟨l', hl, he⟩ := Option.map_eq_some_iff.1 h1
       simp only [RC.reg.injEq] at he; subst he
       have hdf : draw = false := by simpa using hd
       subst hdf
       refine ⟨_, .o ?_ hk, step_region⟩
       have key : ∀ (l0 : List Oper) (l1 : List ROper) (s : Nat), resOps P nt ops l0 = some l1 → (∀ q, l0[q]? = ops[s + q]?) → F2 (fun i ro => ∃ o, ops[i]? = some o ∧ resR P nt ops o = some ro) (List.range' s l0.length) l1 := by
        intro l0
        induction l0 with
        | nil => intro l1 s h1 _; simp only [resOps, Option.some.injEq] at h1; subst h1; exact .nil
        | cons o l0 ihl =>
         intro l1 s h1 h2
         simp only [resOps, Option.bind_eq_some_iff, Option.map_eq_some_iff] at h1
         obtain ⟨x, hx, l1', hl1, rfl⟩ := h1
         simp only [List.length_cons, List.range'_succ]
         refine .cons ⟨o, by have := h2 0; simpa using this.symm, hx⟩ (ihl l1' (s + 1) hl1 fun q => ?_)
         have := h2 (q + 1)
         simpa [Nat.add_assoc, Nat.add_comm 1 q] using this
       have := key ops.toList l' 0 hl (fun q => by simp)
       simpa [List.range_eq_range'] using this
    | regd L =>
     simp only [XF] at h
     obtain ⟨E1, H1, hDT, h⟩ := h
     obtain ⟨out, E', H', ds', hR, hrun⟩ := ih _ _ _ _ h
     refine ⟨out, E', H', ds', hR, hrun.after ?_⟩
     intro base D j w a b cs t hc S Rl DR
     cases hc with
     | @c c _ _ t' h1 hk =>
      cases c <;> simp only [resC, Option.some.injEq, reduceCtorEq, Option.bind_eq_some_iff, Option.map_eq_some_iff, and_false, exists_false] at h1
      rename_i id ops draw
      split at h1
      ·rename_i hd
       subst hd
       obtain ⟨L', hL, he⟩ := Option.map_eq_some_iff.1 h1
       simp only [RC.regd.injEq] at he; subst he
       obtain ⟨a', w', j', hp, hr, hdf, hst⟩ := draw_steps hL hDT S Rl b t' cs
       refine ⟨a', w', j', t', hk, hp, hr, ?_, hst⟩
       rw [hdf]; exact DR.mono (fun _ => .inl) hp.agr
      ·obtain ⟨q, hq, he⟩ := Option.map_eq_some_iff.1 h1; cases he
    | seq x y =>
     simp only [XF] at h
     refine one h ?_
     intro a b cs w t D j hc Rl
     cases hc with
     | @c c _ _ t' h1 hk =>
      cases c <;> simp only [resC, Option.some.injEq, reduceCtorEq, Option.bind_eq_some_iff, Option.map_eq_some_iff, and_false, exists_false, RC.seq.injEq] at h1
      ·split at h1 <;> simp at h1
      ·obtain ⟨x', hx, y', hy, rfl, rfl⟩ := h1
       exact ⟨_, .c hx (.c hy hk), step_seq⟩
    | cond c x y =>
     simp only [XF] at h
     obtain ⟨tt, htt, h⟩ := h
     refine one h ?_
     intro a b cs w t D j hc Rl
     cases hc with
     | @c c' _ _ t' h1 hk =>
      cases c' <;> simp only [resC, Option.some.injEq, reduceCtorEq, Option.bind_eq_some_iff, Option.map_eq_some_iff, and_false, exists_false, RC.cond.injEq] at h1
      ·split at h1 <;> simp at h1
      ·obtain ⟨c'', hc'', x', hx, y', hy, rfl, rfl, rfl⟩ := h1
       obtain ⟨e1, _⟩ := Rl.ev hc''
       rw [htt] at e1
       cases tt
       ·exact ⟨_, .c hy hk, step_cond (t := false) e1⟩
       ·exact ⟨_, .c hx hk, step_cond (t := true) e1⟩
    | block id x =>
     simp only [XF] at h
     refine one h ?_
     intro a b cs w t D j hc Rl
     cases hc with
     | @c c _ _ t' h1 hk =>
      cases c <;> simp only [resC, Option.some.injEq, reduceCtorEq, Option.bind_eq_some_iff, Option.map_eq_some_iff, and_false, exists_false, RC.block.injEq] at h1
      ·split at h1 <;> simp at h1
      ·obtain ⟨x', hx, rfl, rfl⟩ := h1
       exact ⟨_, .c hx (.blk hk), step_block⟩
    | loop x =>
     simp only [XF] at h
     refine one h ?_
     intro a b cs w t D j hc Rl
     cases hc with
     | @c c _ _ t' h1 hk =>
      cases c <;> simp only [resC, Option.some.injEq, reduceCtorEq, Option.bind_eq_some_iff, Option.map_eq_some_iff, and_false, exists_false, RC.loop.injEq] at h1
      ·split at h1 <;> simp at h1
      ·obtain ⟨x', hx, rfl⟩ := h1
       exact ⟨_, .c hx (.lp hx hk), step_loop⟩
    | exit id =>
     simp only [XF] at h
     obtain ⟨k', he, h⟩ := h
     refine one h ?_
     intro a b cs w t D j hc Rl
     cases hc with
     | @c c _ _ t' h1 hk =>
      cases c <;> simp only [resC, Option.some.injEq, reduceCtorEq, Option.bind_eq_some_iff, Option.map_eq_some_iff, and_false, exists_false, RC.exit.injEq] at h1
      ·split at h1 <;> simp at h1
      ·subst h1
       obtain ⟨t1, ht1, hc1⟩ := hk.exit he
       exact ⟨t1, hc1, step_exit ht1⟩
    | ret =>
     simp only [XF] at h
     refine ⟨_, _, _, _, h, ?_⟩
     intro base D j w a b cs t hc S Rl DR
     cases hc with
     | @c c _ _ t' h1 hk =>
      cases c <;> simp only [resC, Option.some.injEq, reduceCtorEq, Option.bind_eq_some_iff, Option.map_eq_some_iff, and_false, exists_false] at h1
      ·split at h1 <;> simp at h1
      ·exact ⟨a, w, j, Post.refl S, Rl.mono (fun _ => .inl) (fun _ _ => rfl), DR.mono (fun _ => .inl) (fun _ _ => rfl), trivial, _, .one step_ret⟩
end
end Go.AX
end
section
namespace Go.AX
open Go
inductive RRes where
 | t (t : Nat)
 | c (t n : Nat)
 | c1 (t : Nat)
structure RFun where
 nt : Nat
 rs : List RRes
 body : RC
def resRes (P : Program) (nt : Nat) : List ResultVar → Option (List RRes)
 | [] => some []
 | .tmp t :: r => if t < nt then (resRes P nt r).map (.t t :: ·) else none
 | .cell t ty :: r => if t < nt then (aggT P ty).bind fun a => (sizT P ty).bind fun n => (resRes P nt r).map ((if a then .c t n else .c1 t) :: ·) else none
def resF (P : Program) (f : FuncId) : Option RFun :=
 (P.funcs[f]?).bind fun fn => fn.body.bind fun c => (resC P fn.ntmps c).bind fun rc => (resRes P fn.ntmps fn.results.toList).map fun rs => ⟨fn.ntmps, rs, rc⟩
def rvals (E : Env) (H : AH) : List RRes → Option (List AV)
 | [] => some []
 | .t t :: r => (rvals E H r).map (E t :: ·)
 | .c t n :: r => (vld n H (E t)).bind fun v => (rvals E H r).map (v :: ·)
 | .c1 t :: r => (vld1 H (E t)).bind fun v => (rvals E H r).map (v :: ·)
def rtup : List AV → AV
 | [v] => v
 | l => .tu l
def FinV (rs : List RRes) (Q : AEnd → AH → Prop) : Fin := fun out E H ds =>
 ds = [] ∧ match out with
  | .ret => ∃ l, rvals E H rs = some l ∧ Q (.ret (rtup l)) H
  | .pan p => Q (.pan p) H
def Call (P : Program) (f : FuncId) (args : List AV) (H : AH) (Q : AEnd → AH → Prop) : Prop := ∃ r H', CallT P f args H r H' ∧ Q r H'
def env (args : List AV) : Env := fun i => args.getD i (.tu [])
section
variable {P : Program}
theorem Rel.env {nt : Nat} {D : Nat → Prop} {j : Inj} {args : List AV} (ha : AV.okL D args) (hn : args.length ≤ nt) : Rel nt D j (env args) ((AV.conL j args).toArray ++ Array.replicate (nt - (AV.conL j args).toArray.size) undef) := by
 refine ⟨by simp [conL_length]; omega, fun t ht => ?_, fun t ht => ?_⟩
 ·simp only [Array.getD_eq_getD_getElem?, AX.env, List.getD_eq_getElem?_getD]
  rw [Array.getElem?_append]
  simp only [List.size_toArray, conL_length, List.getElem?_toArray]
  by_cases h : t < args.length
  ·rw [if_pos h, conL_get]
   simp [h]
  ·rw [if_neg h]
   have : args[t]? = none := List.getElem?_eq_none (by omega)
   simp only [this, Option.getD_none, undef_con, Array.getElem?_replicate]
   split <;> rfl
 ·simp only [AX.env, List.getD_eq_getElem?_getD]
  by_cases h : t < args.length
  ·simp only [List.getElem?_eq_getElem h, Option.getD_some]
   exact okL_iff.1 ha _ (List.getElem_mem h)
  ·have : args[t]? = none := List.getElem?_eq_none (by omega)
   simp [this, AV.ok, AV.okL]
def rread (tm : Array Value) : ResultVar → Sem Value
 | .tmp t => pure (tm.getD t undef)
 | .cell a t => do loadVar t (← asAddr (tm.getD a undef))
theorem resRes_run {base nt : Nat} {D : Nat → Prop} {j : Inj} {H : AH} {E : Env} {w : World} {tm : Array Value} (S : Sim base D j H w) (R : Rel nt D j E tm) : ∀ (l : List ResultVar) (rs : List RRes) (vs : List AV), resRes P nt l = some rs → rvals E H rs = some vs →
  (l.mapM (m := Sem) (rread tm)).run P w = .ok (AV.conL j vs) w ∧ AV.okL D vs
 | [], rs, vs, h, hv => by
  simp only [resRes, Option.some.injEq] at h; subst h
  simp only [rvals, Option.some.injEq] at hv; subst hv
  exact ⟨by simp [AV.conL], by simp only [AV.okL]⟩
 | .tmp t :: r, rs, vs, h, hv => by
  simp only [resRes] at h
  split at h
  ·rename_i ht
   obtain ⟨rs', hr, rfl⟩ := Option.map_eq_some_iff.1 h
   obtain ⟨vs', hv', rfl⟩ := Option.map_eq_some_iff.1 hv
   obtain ⟨i1, i2⟩ := resRes_run S R r rs' vs' hr hv'
   refine ⟨?_, R.ok t ht, i2⟩
   have hg := R.get t ht
   simp only [List.mapM_cons, Sem.run_bind, rread, Sem.run_pure, Result.andThen_ok, AV.conL, hg]
   rw [i1]; rfl
  ·cases h
 | .cell t ty :: r, rs, vs, h, hv => by
  simp only [resRes] at h
  split at h
  ·rename_i ht
   simp only [Option.bind_eq_some_iff, Option.map_eq_some_iff] at h
   obtain ⟨ag, ha, n, hn, rs', hr, rfl⟩ := h
   have hg := R.get t ht
   have hok := R.ok t ht
   cases ag with
   | true =>
    simp only [if_true, rvals, Option.bind_eq_some_iff, Option.map_eq_some_iff] at hv
    obtain ⟨v, hv1, vs', hv', rfl⟩ := hv
    obtain ⟨i1, i2⟩ := resRes_run S R r rs' vs' hr hv'
    generalize E t = u at *
    cases u <;> simp only [vld, reduceCtorEq] at hv1
    rename_i b p
    obtain ⟨l, hl, rfl⟩ := Option.map_eq_some_iff.1 hv1
    obtain ⟨r1, r2, r3, r4⟩ := S.loadCells (P := P) hok hl
    refine ⟨?_, ⟨r2, r3⟩, i2⟩
    have hst : (rread tm (.cell t ty)).run P w = .ok (.agg (AV.conL j l).toArray) w := by
     simp only [rread, Sem.run_bind, hg, AV.con, asAddr, Sem.run_pure, Result.andThen_ok, loadVar, run_isAgg' ha, if_true, run_sizeOf' hn, r1]
    simp only [List.mapM_cons, Sem.run_bind, hst, Result.andThen_ok, AV.conL]
    rw [i1]; rfl
   | false =>
    simp only [Bool.false_eq_true, if_false, rvals, Option.bind_eq_some_iff, Option.map_eq_some_iff] at hv
    obtain ⟨v, hv1, vs', hv', rfl⟩ := hv
    obtain ⟨i1, i2⟩ := resRes_run S R r rs' vs' hr hv'
    generalize E t = u at *
    cases u <;> simp only [vld1, reduceCtorEq] at hv1
    rename_i b p
    obtain ⟨r1, r2, r3⟩ := S.cell hok hv1
    refine ⟨?_, r2, i2⟩
    have hst : (rread tm (.cell t ty)).run P w = .ok (v.con j) w := by
     simp only [rread, Sem.run_bind, hg, AV.con, asAddr, Sem.run_pure, Result.andThen_ok, loadVar, run_isAgg' ha, Bool.false_eq_true, if_false, run_load, r1]
    simp only [List.mapM_cons, Sem.run_bind, hst, Result.andThen_ok, AV.conL]
    rw [i1]; rfl
  ·cases h
theorem rtup_run {j : Inj} {D : Nat → Prop} {vs : List AV} (h : AV.okL D vs) : (if hs : (AV.conL j vs).toArray.size = 1 then (AV.conL j vs).toArray[0] else .tuple (AV.conL j vs).toArray) = (rtup vs).con j ∧ (rtup vs).ok D := by
 cases vs with
 | nil => exact ⟨by simp [rtup, AV.conL, AV.con], by simp [rtup, AV.ok, AV.okL]⟩
 | cons v r =>
  cases r with
  | nil => exact ⟨by simp [rtup, AV.conL], h.1⟩
  | cons u r => exact ⟨by simp [rtup, AV.conL, AV.con], h⟩
end
end Go.AX
end
section
namespace Go.AX
open Go
structure RDef where
 nt : Nat
 t : Nat
 l : List ROper
 c : RC
def isRec (o : Oper) : Option Nat :=
 match o.op, o.guard with
 | .call { callee := .builtin .recover, .. }, none => o.dst
 | _, _ => none
def resDf (P : Program) (f : FuncId) : Option RDef :=
 (P.funcs[f]?).bind fun fn => fn.body.bind fun c => match c, fn.results.toList with
  | .seq (.region _ ops false) c2, [] => (match ops.toList with
   | o :: r => (isRec o).bind fun t => if t < fn.ntmps then (resOps P fn.ntmps ops r).bind fun l => (resC P fn.ntmps c2).map fun rc => ⟨fn.ntmps, t, l, rc⟩ else none
   | [] => none)
  | _, _ => none
def recMode (j : Inj) : AV → FrameMode
 | .ni => .returning
 | v => .panicking [{ v := v.con j, recovered := false }]
def recDone (j : Inj) : AV → FrameMode
 | .ni => .returning
 | v => .panicking [{ v := v.con j, recovered := true }]
def DefT (P : Program) (f : FuncId) (args : List AV) (v : AV) (H H' : AH) : Prop :=
 ∀ base D j w, Sim base D j H w → AV.okL D args → v.ok D → CallsD P f (AV.conL j args).toArray (recMode j v) w fun e u' w' => ∃ x j', e = .returned x ∧ u' = recDone j v ∧ Post base D j H w H' w' j'
section
variable {P : Program}
def FinN (Q : AH → Prop) : Fin := fun out E H ds => ds = [] ∧ match out with | .ret => Q H | .pan _ => False
def BdF (P : Program) (f : FuncId) : Prop := ∃ fn, P.funcs[f]? = some fn ∧ (fn.body.isSome && !(fn.name == "runtime.NumGoroutine")) = true
theorem run_callFunc {f : FuncId} {args : Array Value} {w : World} (h : BdF P f) : (callFunc f args).run P w = .ok (.enter f args) w := by
 obtain ⟨fn, hf, hb⟩ := h
 exact callFunc_run hf hb
def EndD (P : Program) (out : BOut) (d : ADef) (H H' : AH) : Prop :=
 ∃ v, ((out = .ret ∧ v = .ni) ∨ (∃ t x, v = .fc t x ∧ out = .pan [⟨v, false⟩])) ∧ BdF P d.f ∧ DefT P d.f d.args v H H'
def FinD (P : Program) (rs : List RRes) (Q : AEnd → AH → Prop) : Fin := fun out E H ds =>
 match ds with
 | [] => (match out with | .ret => ∃ l, rvals E H rs = some l ∧ Q (.ret (rtup l)) H | .pan p => Q (.pan p) H)
 | [d] => ∃ H', EndD P out d H H' ∧ ∃ l, rvals E H' rs = some l ∧ Q (.ret (rtup l)) H'
 | _ => False
theorem results_run {fn : Func} {rs : List RRes} {base : Nat} {D : Nat → Prop} {j : Inj} {H : AH} {E : Env} {w : World} {tm : Array Value} {l : List AV} (S : Sim base D j H w) (R : Rel fn.ntmps D j E tm) (hrs : resRes P fn.ntmps fn.results.toList = some rs) (hl : rvals E H rs = some l) :
  (results fn tm).run P w = .ok ((rtup l).con j) w ∧ (rtup l).ok D := by
 obtain ⟨r1, r2⟩ := resRes_run (P := P) S R _ _ _ hrs hl
 obtain ⟨r3, r4⟩ := rtup_run (j := j) r2
 refine ⟨?_, r4⟩
 have h0 : results fn tm = (do let vs ← fn.results.mapM (rread tm); pure (if h : vs.size = 1 then vs[0] else .tuple vs)) := by
  unfold results
  congr 1
 have h1 : (fn.results.mapM (m := Sem) (rread tm)).run P w = .ok (AV.conL j l).toArray w := by
  rw [Array.mapM_eq_mapM_toList]
  simp only [Sem.run_map, r1, Result.andThen_ok]
 rw [h0, Sem.run_bind, h1, Result.andThen_ok, ← r3]
 rfl
theorem settle_done {j : Inj} {v : AV} : settle (recDone j v) = .returning := by cases v <;> rfl
theorem call_of_XD {f : FuncId} {rf : RFun} {args : List AV} {H : AH} {Q : AEnd → AH → Prop} (hf : resF P f = some rf) (hn : args.length ≤ rf.nt) (h : X P (FinD P rf.rs Q) [.c rf.body] (env args) H []) : Call P f args H Q := by
 simp only [resF, Option.bind_eq_some_iff, Option.map_eq_some_iff] at hf
 obtain ⟨fn, hfn, c, hc, rc, hrc, rs, hrs, rfl⟩ := hf
 obtain ⟨n, h⟩ := h
 obtain ⟨out, E', H', ds', hR, hrun⟩ := x_runs (nt := fn.ntmps) (FinD P rs Q) n _ _ _ _ h
 have start : ∀ base D j w, Sim base D j H w → AV.okL D args → ∀ cs, ∃ a' w' j', Post base D j H w H' w' j' ∧ Rel fn.ntmps (Dnew D H H') j' E' a'.tmps ∧ DRel (Dnew D H H') j' ds' a'.defers ∧ out.ok (Dnew D H H') ∧
   Reach P (lone (Frame.enter P f (AV.conL j args).toArray .normal) cs w) { (default : Frame) with fn := f, kind := .normal } cs out j' a' w' := by
  intro base D j w S ha cs
  have henter : Frame.enter P f (AV.conL j args).toArray .normal = ({ (default : Frame) with fn := f, kind := .normal } : Frame).at { tmps := (AV.conL j args).toArray ++ Array.replicate (fn.ntmps - (AV.conL j args).toArray.size) undef, defers := [] } [.code c] := by
   simp [Frame.enter, Frame.at, hfn, hc]
  rw [henter]
  exact hrun base D j w { tmps := (AV.conL j args).toArray ++ Array.replicate (fn.ntmps - (AV.conL j args).toArray.size) undef, defers := [] } _ cs [.code c] (.c hrc .nil) S (Rel.env ha hn) .nil
 match ds', hR, start with
 | [], hR, start =>
  cases out with
  | ret =>
   obtain ⟨l, hl, hQ⟩ := hR
   refine ⟨_, _, ?_, hQ⟩
   intro base D j w S ha cs
   obtain ⟨a', w', j', p1, p2, p3, p4, t', ht⟩ := start base D j w S ha cs
   obtain ⟨r1, r2⟩ := results_run (P := P) p1.sim p2 hrs hl
   have hd : a'.defers = [] := by
    cases hd : a'.defers with
    | nil => rfl
    | cons d r => rw [hd] at p3; cases p3
   exact ⟨.returned ((rtup l).con j'), w', _, ⟨j', rfl, r2, p1⟩, ht, rfl, rfl, hd, rfl, fn, hfn, r1⟩
  | pan p =>
   refine ⟨_, _, ?_, hR⟩
   intro base D j w S ha cs
   obtain ⟨a', w', j', p1, p2, p3, p4, t', ht⟩ := start base D j w S ha cs
   have hd : a'.defers = [] := by
    cases hd : a'.defers with
    | nil => rfl
    | cons d r => rw [hd] at p3; cases p3
   exact ⟨.panicked (p.map (PE.con j')), w', _, ⟨j', rfl, p4, p1⟩, ht, rfl, rfl, hd, fn, hfn⟩
 | [d], hR, start =>
  obtain ⟨H2, ⟨v, hv, hbd, hdt⟩, l, hl, hQ⟩ := hR
  refine ⟨_, _, ?_, hQ⟩
  intro base D j w S ha cs
  obtain ⟨a', w', j', p1, p2, p3, p4, hreach⟩ := start base D j w S ha cs
  obtain ⟨e, hde, ho, cap, as, he, hcap⟩ : ∃ e, a'.defers = [e] ∧ AV.okL (Dnew D H H') d.args ∧ ∃ cap args, e = { target := .fn (.func d.f) cap, args := args } ∧ args ++ cap = (AV.conL j' d.args).toArray := by
   cases hd : a'.defers with
   | nil => rw [hd] at p3; cases p3
   | cons e r =>
    rw [hd] at p3
    cases p3 with
    | cons h1 h2 =>
     cases h2
     obtain ⟨h3, cap, as, h4, h5⟩ := h1
     exact ⟨e, rfl, h3, cap, as, h4, h5⟩
  have hvok : v.ok (Dnew D H H') := by
   rcases hv with ⟨_, rfl⟩ | ⟨t, x, rfl, rfl⟩
   ·trivial
   ·exact p4 _ (List.mem_singleton.2 rfl)
  have hL : Leaves P fn a'.tmps (fun e w' => ∃ j', e = (AEnd.ret (rtup l)).con j' ∧ (AEnd.ret (rtup l)).ok (Dnew D H H2) ∧ Post base D j H w H2 w' j') [e] (recMode j' v) w' := by
   refine ⟨by cases v <;> simp [recMode], .func d.f, cap, d.f, (AV.conL j' d.args).toArray, by rw [he], ?_, ?_⟩
   ·rw [he]
    simp only [invoke]
    rw [hcap]
    exact run_callFunc hbd
   ·intro c0 cs0 hm
    obtain ⟨e2, u2, w2, fr2, ⟨x, j2, rfl, rfl, q1⟩, g2, g3, g4⟩ := hdt base (Dnew D H H') j' w' p1.sim ho hvok c0 cs0 hm
    refine ⟨.returned x, recDone j' v, w2, fr2, ?_, g2, g3, g4⟩
    show Leaves P fn a'.tmps _ [] (settle (recDone j' v)) w2
    rw [settle_done]
    have hD := dnew_eq (D := D) p1.evo.nx q1.evo.nx
    have p2' : Rel fn.ntmps (Dnew (Dnew D H H') H' H2) j2 E' a'.tmps := p2.mono (fun _ => .inl) q1.agr
    obtain ⟨r1, r2⟩ := results_run (P := P) q1.sim p2' hrs hl
    rw [hD] at r2
    exact ⟨_, r1, j2, rfl, r2, p1.trans q1 S.lt⟩
  have fin : ∀ (m : FrameMode) (t' : List Item), m = recMode j' v → Steps P (lone (Frame.enter P f (AV.conL j args).toArray .normal) cs w) (lone { ({ (default : Frame) with fn := f, kind := .normal } : Frame).at a' t' with mode := m } cs w') →
    ∃ e w'' fr, (∃ j', e = (AEnd.ret (rtup l)).con j' ∧ (AEnd.ret (rtup l)).ok (Dnew D H H2) ∧ Post base D j H w H2 w'' j') ∧ Comes P (lone (Frame.enter P f (AV.conL j args).toArray .normal) cs w) (lone fr cs w'') e ∧ fr.fn = f ∧ fr.leaving P w'' e := by
   intro m t' hm ht
   subst hm
   obtain ⟨e', w'', fr', hR', hs', hfn', hl'⟩ := leaves_steps [e] (recMode j' v) w' { ({ (default : Frame) with fn := f, kind := .normal } : Frame).at a' t' with mode := recMode j' v } cs rfl hde rfl hfn rfl hL
   exact ⟨e', w'', fr', hR', Comes.of_steps ht hs', hfn', hl'⟩
  rcases hv with ⟨rfl, rfl⟩ | ⟨t, x, rfl, rfl⟩
  ·obtain ⟨t', ht⟩ := hreach
   exact fin _ t' rfl ht
  ·obtain ⟨t', ht⟩ := hreach
   exact fin _ t' rfl ht
 | _ :: _ :: _, hR, _ => exact hR.elim
end
end Go.AX
end
section
namespace Go.AX
open Go
section
variable {P : Program} {R : Fin} {k : List It} {E : Env} {H : AH} {ds : List ADef}
theorem X_step {k' : List It} {E' : Env} {H' : AH} {ds' : List ADef} (h : ∀ n, XF P R (n + 1) k E H ds ↔ XF P R n k' E' H' ds') : X P R k E H ds = X P R k' E' H' ds' := by
 apply propext
 constructor
 ·rintro ⟨n, h1⟩
  cases n with
  | zero => simp [XF] at h1
  | succ n => exact ⟨n, (h n).1 h1⟩
 ·rintro ⟨n, h1⟩
  exact ⟨n + 1, (h n).2 h1⟩
theorem X_end (Q : Prop) (h : ∀ n, XF P R (n + 1) k E H ds ↔ Q) : X P R k E H ds = Q := by
 apply propext
 constructor
 ·rintro ⟨n, h1⟩
  cases n with
  | zero => simp [XF] at h1
  | succ n => exact (h n).1 h1
 ·intro q
  exact ⟨1, (h 0).2 q⟩
theorem X_nil : X P R [] E H ds = R .ret E H ds := X_end _ fun n => by simp only [XF]
theorem X_ret : X P R (.c .ret :: k) E H ds = R .ret E H ds := X_end _ fun n => by simp only [XF]
theorem X_blk {i : Nat} : X P R (.blk i :: k) E H ds = X P R k E H ds := X_step fun n => by simp only [XF]
theorem X_lp {c : RC} : X P R (.lp c :: k) E H ds = X P R (.c c :: .lp c :: k) E H ds := X_step fun n => by simp only [XF]
theorem X_skip : X P R (.c .skip :: k) E H ds = X P R k E H ds := X_step fun n => by simp only [XF]
theorem X_reg {l : List ROper} : X P R (.c (.reg l) :: k) E H ds = X P R (.o l :: k) E H ds := X_step fun n => by simp only [XF]
theorem X_seq {a b : RC} : X P R (.c (.seq a b) :: k) E H ds = X P R (.c a :: .c b :: k) E H ds := X_step fun n => by simp only [XF]
theorem X_block {i : Nat} {a : RC} : X P R (.c (.block i a) :: k) E H ds = X P R (.c a :: .blk i :: k) E H ds := X_step fun n => by simp only [XF]
theorem X_loop {a : RC} : X P R (.c (.loop a) :: k) E H ds = X P R (.c a :: .lp a :: k) E H ds := X_step fun n => by simp only [XF]
theorem X_onil : X P R (.o [] :: k) E H ds = X P R k E H ds := X_step fun n => by simp only [XF]
def AtB (P : Program) (R : Fin) (v : AV) (a b : RC) (k : List It) (E : Env) (H : AH) (ds : List ADef) : Prop := ∃ t, v = .bo t ∧ X P R (.c (bif t then a else b) :: k) E H ds
theorem X_cond {c : Opd} {a b : RC} : X P R (.c (.cond c a b) :: k) E H ds = AtB P R (ev E c) a b k E H ds := by
 apply propext
 constructor
 ·rintro ⟨n, h1⟩
  cases n with
  | zero => simp [XF] at h1
  | succ n => simp only [XF] at h1; obtain ⟨t, ht, h⟩ := h1; exact ⟨t, ht, n, h⟩
 ·rintro ⟨t, ht, n, h⟩
  exact ⟨n + 1, by simp only [XF]; exact ⟨t, ht, h⟩⟩
theorem AtB_t {a b : RC} : AtB P R (.bo true) a b k E H ds = X P R (.c a :: k) E H ds := by simp [AtB]
theorem AtB_f {a b : RC} : AtB P R (.bo false) a b k E H ds = X P R (.c b :: k) E H ds := by simp [AtB]
def AtV (P : Program) (R : Fin) (r : Option (AV × AH)) (d : Option Nat) (l : List ROper) (k : List It) (E : Env) (ds : List ADef) : Prop := ∃ v H', r = some (v, H') ∧ X P R (.o l :: k) (E.put d v) H' ds
theorem AtV_some {v : AV} {d : Option Nat} {l : List ROper} : AtV P R (some (v, H)) d l k E ds = X P R (.o l :: k) (E.put d v) H ds := propext ⟨fun ⟨_, _, h, hx⟩ => by
 simp only [Option.some.injEq, Prod.mk.injEq] at h
 obtain ⟨rfl, rfl⟩ := h; exact hx, fun h => ⟨_, _, rfl, h⟩⟩
theorem X_ov {d : Option Nat} {vo : VOp} {l : List ROper} : X P R (.o (⟨d, none, .v vo⟩ :: l) :: k) E H ds = AtV P R (vop vo E H) d l k E ds := by
 apply propext
 constructor
 ·rintro ⟨n, h1⟩
  cases n with
  | zero => simp [XF] at h1
  | succ n => simp only [XF, gwant, Option.some.injEq, exists_eq_left', if_true] at h1; obtain ⟨v, H', h, h2⟩ := h1; exact ⟨v, H', h, n, h2⟩
 ·rintro ⟨v, H', h, n, h2⟩
  exact ⟨n + 1, by simp only [XF, gwant, Option.some.injEq, exists_eq_left', if_true]; exact ⟨v, H', h, h2⟩⟩
def AtC (P : Program) (R : Fin) (f : FuncId) (args : List AV) (d : Option Nat) (l : List ROper) (k : List It) (E : Env) (H : AH) (ds : List ADef) : Prop := ∃ r H', CallT P f args H r H' ∧ AtEnd R (X P R) r d l k E H' ds
theorem AtEnd_X {r : AEnd} {d : Option Nat} {l : List ROper} : AtEnd R (X P R) r d l k E H ds ↔ ∃ n, AtEnd R (XF P R n) r d l k E H ds := by
 cases r with
 | ret v => simp only [AtEnd, X]
 | pan p => simp [AtEnd]
theorem X_oc {d : Option Nat} {f : FuncId} {args : List Opd} {l : List ROper} : X P R (.o (⟨d, none, .call f args⟩ :: l) :: k) E H ds = AtC P R f (vals E args) d l k E H ds := by
 apply propext
 constructor
 ·rintro ⟨n, h1⟩
  cases n with
  | zero => simp [XF] at h1
  | succ n => simp only [XF, gwant, Option.some.injEq, exists_eq_left', if_true] at h1; obtain ⟨r, H', h, h2⟩ := h1; exact ⟨r, H', h, AtEnd_X.2 ⟨n, h2⟩⟩
 ·rintro ⟨r, H', h, h2⟩
  obtain ⟨n, h2⟩ := AtEnd_X.1 h2
  exact ⟨n + 1, by simp only [XF, gwant, Option.some.injEq, exists_eq_left', if_true]; exact ⟨r, H', h, h2⟩⟩
def AtG (P : Program) (R : Fin) (v : AV) (b : Bool) (d : Option Nat) (o : ROp) (l : List ROper) (k : List It) (E : Env) (H : AH) (ds : List ADef) : Prop :=
 ∃ t, v = .bo t ∧ if t = b then X P R (.o (⟨d, none, o⟩ :: l) :: k) E H ds else X P R (.o l :: k) (E.put d (.tu [])) H ds
theorem X_og {d : Option Nat} {t : Nat} {b : Bool} {o : ROp} {l : List ROper} (h : AtG P R (E t) b d o l k E H ds) : X P R (.o (⟨d, some (t, b), o⟩ :: l) :: k) E H ds := by
 obtain ⟨c, hc, h⟩ := h
 split at h
 ·rename_i he
  obtain ⟨n, h⟩ := h
  cases n with
  | zero => simp [XF] at h
  | succ n =>
   refine ⟨n + 1, ?_⟩
   simp only [XF, gwant, Option.some.injEq, exists_eq_left', if_true] at h
   simp only [XF, gwant, hc, he, beq_self_eq_true, Option.some.injEq, exists_eq_left', if_true]
   exact h
 ·rename_i he
  obtain ⟨n, h⟩ := h
  refine ⟨n + 1, ?_⟩
  have : (c == b) = false := by simpa using he
  simp only [XF, gwant, hc, this, Option.some.injEq, exists_eq_left', Bool.false_eq_true, if_false]
  exact h
theorem X_ogt {d : Option Nat} {t : Nat} {b : Bool} {o : ROp} {l : List ROper} (ht : E t = .tu []) (h : X P R (.o l :: k) (E.put d (.tu [])) H ds) : X P R (.o (⟨d, some (t, b), o⟩ :: l) :: k) E H ds := by
 obtain ⟨n, h⟩ := h
 refine ⟨n + 1, ?_⟩
 simp only [XF, gwant, ht, Option.some.injEq, exists_eq_left', Bool.false_eq_true, if_false]
 exact h
section
variable {d : Option Nat} {o : ROp} {l : List ROper}
end
def XD (P : Program) (R : Fin) : List DOp → List It → Env → AH → List ADef → Prop
 | [], k, E, H, ds => X P R k E H ds
 | x :: r, k, E, H, ds => ∃ E1 H1, DStep P x E H E1 H1 ∧ XD P R r k E1 H1 ds
theorem XD_iff : ∀ {L : List DOp} {E : Env} {H : AH}, XD P R L k E H ds ↔ ∃ E' H', DT P L E H E' H' ∧ X P R k E' H' ds
 | [], E, H => by
  simp only [XD, DT]
  exact ⟨fun h => ⟨E, H, ⟨rfl, rfl⟩, h⟩, fun ⟨_, _, ⟨rfl, rfl⟩, h⟩ => h⟩
 | x :: r, E, H => by
  simp only [XD, DT]
  constructor
  ·rintro ⟨E1, H1, h1, h2⟩
   obtain ⟨E', H', h3, h4⟩ := XD_iff.1 h2
   exact ⟨E', H', ⟨E1, H1, h1, h3⟩, h4⟩
  ·rintro ⟨E', H', ⟨E1, H1, h1, h3⟩, h4⟩
   exact ⟨E1, H1, h1, XD_iff.2 ⟨E', H', h3, h4⟩⟩
theorem X_regd {L : List DOp} : X P R (.c (.regd L) :: k) E H ds = XD P R L k E H ds := by
 apply propext
 rw [XD_iff]
 constructor
 ·rintro ⟨n, h1⟩
  cases n with
  | zero => simp [XF] at h1
  | succ n => simp only [XF] at h1; obtain ⟨E', H', h, h2⟩ := h1; exact ⟨E', H', h, n, h2⟩
 ·rintro ⟨E', H', h, n, h2⟩
  exact ⟨n + 1, by simp only [XF]; exact ⟨E', H', h, h2⟩⟩
theorem XD_nil : XD P R [] k E H ds = X P R k E H ds := rfl
def DtV (P : Program) (R : Fin) (r : Option (AV × AH)) (d : Option Nat) (rk : List ROper) (L : List DOp) (k : List It) (E : Env) (H : AH) (ds : List ADef) : Prop :=
 ∃ v H', r = some (v, H') ∧ Rechks rk (E.put d v) H H' ∧ XD P R L k (E.put d v) H' ds
section
variable {d : Option Nat} {rk : List ROper} {L : List DOp} {vo : VOp} {f : FuncId} {args : List Opd}
def DtC (P : Program) (R : Fin) (f : FuncId) (args : List AV) (d : Option Nat) (rk : List ROper) (L : List DOp) (k : List It) (E : Env) (H : AH) (ds : List ADef) : Prop :=
 ∃ v H', CallT P f args H (.ret v) H' ∧ Rechks rk (E.put d v) H H' ∧ XD P R L k (E.put d v) H' ds
def DtG (P : Program) (R : Fin) (v : AV) (b : Bool) (d : Option Nat) (o : ROp) (rk : List ROper) (L : List DOp) (k : List It) (E : Env) (H : AH) (ds : List ADef) : Prop :=
 ∃ t, v = .bo t ∧ if t = b then XD P R (⟨⟨d, none, o⟩, rk⟩ :: L) k E H ds else XD P R L k (E.put d (.tu [])) H ds
variable {o : ROp}
end
def RkG (v : AV) (b : Bool) (Q : Prop) : Prop := (∃ c, v = .bo c ∧ c ≠ b) ∨ Q
def AtR (r : Option (List AV)) (Q : AEnd → AH → Prop) (H : AH) : Prop := ∃ l, r = some l ∧ Q (.ret (rtup l)) H
end
section
variable {E : Env} {d t : Nat} {v : AV}
end
section
variable {te : EqT} {cn : Bool} {k k' : IntKind} {a b : Int}
theorem vbin_add : vbin .add te cn (.it k a) (.it k b) = some (.it k (k.wrap (a + b))) := by simp [vbin, BinOp.isSh, intBin]
theorem vbin_sub : vbin .sub te cn (.it k a) (.it k b) = some (.it k (k.wrap (a - b))) := by simp [vbin, BinOp.isSh, intBin]
theorem vbin_mul : vbin .mul te cn (.it k a) (.it k b) = some (.it k (k.wrap (a * b))) := by simp [vbin, BinOp.isSh, intBin]
theorem vbin_quo : vbin .quo te cn (.it k a) (.it k b) = if b = 0 then none else some (.it k (k.wrap (a.tdiv b))) := by simp [vbin, BinOp.isSh, intBin]
theorem vbin_rem : vbin .rem te cn (.it k a) (.it k b) = if b = 0 then none else some (.it k (a.tmod b)) := by simp [vbin, BinOp.isSh, intBin]
theorem vbin_and : vbin .and te cn (.it k a) (.it k b) = some (.it k (Go.bits .and k a b)) := by simp [vbin, BinOp.isSh, intBin]
theorem vbin_or : vbin .or te cn (.it k a) (.it k b) = some (.it k (Go.bits .or k a b)) := by simp [vbin, BinOp.isSh, intBin]
theorem vbin_xor : vbin .xor te cn (.it k a) (.it k b) = some (.it k (Go.bits .xor k a b)) := by simp [vbin, BinOp.isSh, intBin]
theorem vbin_andNot : vbin .andNot te cn (.it k a) (.it k b) = some (.it k (Go.bits .andNot k a b)) := by simp [vbin, BinOp.isSh, intBin]
theorem vbin_eql : vbin .eql te cn (.it k a) (.it k b) = some (.bo (a == b)) := by simp [vbin, BinOp.isSh, intBin]
theorem vbin_neq : vbin .neq te cn (.it k a) (.it k b) = some (.bo (a != b)) := by simp [vbin, BinOp.isSh, intBin]
theorem vbin_lss : vbin .lss te cn (.it k a) (.it k b) = some (.bo (decide (a < b))) := by simp [vbin, BinOp.isSh, intBin]
theorem vbin_leq : vbin .leq te cn (.it k a) (.it k b) = some (.bo (decide (a ≤ b))) := by simp [vbin, BinOp.isSh, intBin]
theorem vbin_gtr : vbin .gtr te cn (.it k a) (.it k b) = some (.bo (decide (a > b))) := by simp [vbin, BinOp.isSh, intBin]
theorem vbin_geq : vbin .geq te cn (.it k a) (.it k b) = some (.bo (decide (a ≥ b))) := by simp [vbin, BinOp.isSh, intBin]
theorem vbin_shl : vbin .shl te cn (.it k a) (.it k' b) = if b < 0 then none else some (.it k (k.wrap (a * 2 ^ (min b.toNat k.bits)))) := by simp [vbin, BinOp.isSh, shBin]
theorem vbin_shr : vbin .shr te cn (.it k a) (.it k' b) = if b < 0 then none else some (.it k (a.fdiv (2 ^ (min b.toNat k.bits)))) := by simp [vbin, BinOp.isSh, shBin]
theorem vbin_beq {a b : Bool} : vbin .eql .bo cn (.bo a) (.bo b) = some (.bo (a == b)) := by simp [vbin, veq]
theorem vbin_bne {a b : Bool} : vbin .neq .bo cn (.bo a) (.bo b) = some (.bo (!(a == b))) := by simp [vbin, veq]
end
structure Ext (H H' : AH) : Prop where
 nx : H.nx ≤ H'.nx
 g : ∀ b, b < H.nx → H'.g b = H.g b
theorem al_new {H : AH} {l : List AV} : (H.al l).g H.nx = .rw l := by simp [AH.al]
theorem al_old {H : AH} {l : List AV} {b : Nat} (h : b < H.nx) : (H.al l).g b = H.g b := by simp only [AH.al]; rw [if_neg (by omega)]
theorem up_self {H : AH} {l : List AV} {b : Nat} : (H.up b l).g b = .rw l := by simp [AH.up]
theorem up_other {H : AH} {l : List AV} {b x : Nat} (h : x ≠ b) : (H.up b l).g x = H.g x := by simp [AH.up, h]
end Go.AX
end
section
namespace Go.AX
open Go Go.ChangeShapes Go.WideShapes Go.ChangeAt Go.RowKit
def injOf (rows : List (Addr × List AV)) : Inj := fun b => match rows[b]? with | some r => ⟨r.1.block, 0, r.1.off, r.1.spot⟩ | none => ⟨0, 0, 0, none⟩
def blkOf (l : List AV) : Blk := match l with | [] => .no | x :: r => .ro (x :: r)
def AH.of (rows : List (Addr × List AV)) : AH := ⟨rows.length, fun b => match rows[b]? with | some r => blkOf r.2 | none => .no⟩
structure RowsIn (W : World) (rows : List (Addr × List AV)) : Prop where
 cell : ∀ (b : Nat) (a : Addr) (l : List AV), rows[b]? = some (a, l) → ∀ (i : Nat) v, l[i]? = some v → W.cell? (a.add i) = some (v.con (injOf rows)) ∧ v.ok (· < rows.length) ∧ v.sc = true
theorem cell_block {W : World} {a : Addr} {v : Value} (h : W.cell? a = some v) : a.spot = none ∧ ∃ cs t fr, W.heap[a.block]? = some (.cells cs t fr) ∧ cs[a.off]? = some v := by
 unfold World.cell? at h
 split at h
 ·rename_i c e f hb
  split at h
  ·cases h
  ·rename_i hs
   exact ⟨by simpa using hs, c, e, f, hb, h⟩
 ·cases h
theorem of_g {rows : List (Addr × List AV)} {b : Nat} : (AH.of rows).g b = .no ∨ ∃ a l, rows[b]? = some (a, l) ∧ l ≠ [] ∧ (AH.of rows).g b = .ro l := by
 simp only [AH.of]
 cases h : rows[b]? with
 | none => exact .inl rfl
 | some r =>
  obtain ⟨a, l⟩ := r
  cases l with
  | nil => exact .inl rfl
  | cons x r => exact .inr ⟨a, x :: r, rfl, by simp, rfl⟩
theorem of_own {rows : List (Addr × List AV)} (b : Nat) : ((AH.of rows).g b).own = false := by
 rcases of_g (rows := rows) (b := b) with h | ⟨_, _, _, _, h⟩ <;> rw [h] <;> rfl
theorem Sim.of {W : World} {rows : List (Addr × List AV)} (h : RowsIn W rows) : Sim W.heap.size (· < rows.length) (injOf rows) (AH.of rows) W := by
 refine ⟨fun b hb => hb, ?_, Nat.le_refl _, ?_, ?_, ?_, ?_⟩
 ·intro b hb
  have : rows[b]? = none := List.getElem?_eq_none hb
  simp only [AH.of, this]
 ·intro b l hb hg
  rcases of_g (rows := rows) (b := b) with h0 | ⟨a, l', h1, h2, h3⟩
  ·rw [h0] at hg; cases hg
  ·rw [h3] at hg
   simp only [Blk.ro.injEq] at hg; subst hg
   have hc := h.cell b a l' h1
   have hj : injOf rows b = ⟨a.block, 0, a.off, a.spot⟩ := by simp only [injOf, h1]
   refine ⟨?_, okL_iff.2 fun v hv => ?_, List.all_eq_true.2 fun v hv => ?_⟩
   ·cases l' with
    | nil => exact absurd rfl h2
    | cons x r =>
     obtain ⟨c0, _⟩ := hc 0 x rfl
     have ha0 : a.add 0 = a := by simp [Addr.add]
     rw [ha0] at c0
     obtain ⟨hs, cs, t, fr, hb0, _⟩ := cell_block c0
     refine ⟨cs, t, fr, by rw [hj]; exact hb0, fun i v hv => ?_⟩
     rw [conL_get] at hv
     obtain ⟨y, hy, rfl⟩ := Option.map_eq_some_iff.1 hv
     obtain ⟨c1, _⟩ := hc i y hy
     obtain ⟨_, cs', t', fr', hb1, hc1⟩ := cell_block c1
     have hblk : (a.add i).block = a.block := by unfold Addr.add; split <;> rfl
     have hoff : (a.add i).off = a.off + i := by
      unfold Addr.add
      split
      ·rename_i h; simp [h]
      ·rfl
     rw [hblk, hb0] at hb1
     simp only [Option.some.injEq, Obj.cells.injEq] at hb1
     rw [hoff, ← hb1.1] at hc1
     rw [hj]
     exact ⟨hs, hc1⟩
   ·obtain ⟨i, hi⟩ := List.mem_iff_getElem?.1 hv
    exact (hc i v hi).2.1
   ·obtain ⟨i, hi⟩ := List.mem_iff_getElem?.1 hv
    exact (hc i v hi).2.2
 ·intro b l hb hg
  have := of_own (rows := rows) b
  rw [hg] at this; cases this
 ·intro b l hb hg
  have := of_own (rows := rows) b
  rw [hg] at this; cases this
 ·intro b b' hb hb' hg
  rw [of_own] at hg; cases hg
theorem below_of_fr {D : Nat → Prop} {j : Inj} {H : AH} {W W' : World} (h : Fr D j H W W') (ho : ∀ b, (H.g b).own = false) : Below W.heap.size W W' :=
 ⟨h.os, h.tape, h.output, h.size, fun k hk => h.block k hk fun b _ hb => by rw [ho] at hb; cases hb⟩
theorem calls_of_call {P : Program} {f : FuncId} {W : World} {rows : List (Addr × List AV)} {args : List AV} {Q : AH → Prop} (hr : RowsIn W rows) (hok : AV.okL (· < rows.length) args)
  (hc : Call P f args (AH.of rows) fun r H' => r = .ret (.bo true) ∧ Q H') : Calls P f (AV.conL (injOf rows) args).toArray W fun e W' => e = .returned (.bool true) ∧ Below W.heap.size W W' := by
 obtain ⟨r, H', h1, rfl, _⟩ := hc
 refine (h1 _ _ _ _ (Sim.of hr) hok).mono ?_
 rintro e W' ⟨j', rfl, _, hp⟩
 exact ⟨rfl, below_of_fr hp.fr of_own⟩
theorem trodAll_below {H : Type} {enc : TypeId × Value → H} {P : Program} (hl : laidOutB P = true) {W W' : World} (hb : Below W.heap.size W W') : ∀ (ts : List TypeId) (vs : List Value) (ds : List (DataW H)) (ps : List MemPlace),
  (∀ t ∈ ts, P.readableRec t = true ∧ t < P.types.size) → DataW.TrodAll enc P W 0 (fun _ => true) true ts vs ds ps → DataW.TrodAll enc P W' 0 (fun b => decide (b < W.heap.size)) true ts vs ds ps
 | [], vs, ds, ps, _, h => by
  obtain ⟨rfl, rfl, rfl⟩ := trodAll_nil h
  exact rfl
 | t :: ts, vs, ds, ps, ht, h => by
  obtain ⟨v, vs', d, ds', p, q, rfl, rfl, rfl, h1, h2⟩ := trodAll_cons h
  obtain ⟨r1, r2⟩ := ht t (by simp)
  refine trodAll_cons_mk (Below.trod hl r1 r2 h1 hb ?_) (trodAll_below hl hb ts vs' ds' q (fun t h => ht t (by simp [h])) h2)
  obtain ⟨m, hm⟩ := h1
  exact DataW.trod_lt m _ _ _ hm
theorem trodAll_length {H : Type} {enc : TypeId × Value → H} {P : Program} {W : World} {base : Nat} {spare : Nat → Bool} {held : Bool} : ∀ (ts : List TypeId) (vs : List Value) (ds : List (DataW H)) (ps : List MemPlace),
  DataW.TrodAll enc P W base spare held ts vs ds ps → ds.length = ts.length
 | [], vs, ds, ps, h => by
  obtain ⟨rfl, rfl, rfl⟩ := trodAll_nil h
  rfl
 | t :: ts, vs, ds, ps, h => by
  obtain ⟨v, vs', d, ds', p, q, rfl, rfl, rfl, h1, h2⟩ := trodAll_cons h
  simp [trodAll_length ts vs' ds' q h2]
theorem lift_law {C : Checked} {f : FuncId} {fn : Func} {s : ChangeSpec} {conds : List PathCond} {rt : TypeId} {os : Os} {H : Type} {enc : TypeId × Value → H} (own : ownKnob C.prog.godebug = none) (started : os.Started) (hinit : C.prog.inits.idxOf? f = none) (hf : C.prog.funcs[f]? = some fn)
  (wit : ∃ (w : World) (tape : Tape) (i : Input), w.os = os ∧ World.Shaped C.prog (w.forCall tape i) ∧ i.vars = [] ∧ Input.okWide C.prog (w.forCall tape i) Reach.any w.heap.size f i ∧ ChangeSpec.pre6 enc C.prog fn s conds false (w.forCall tape i).memory i.args ∧ ({} : Assume).holds C.prog (lone (Frame.enter C.prog f i.args CallKind.normal) [] (w.forCall tape i)))
  (laid : laidOutB C.prog = true) (hpar : fn.params.toList.all (fun t => C.prog.readableRec t && decide (t < C.prog.types.size)) = true) (hvars : s.vars = [])
  (hfn : ∀ (ds : List (DataW H)), ds.length = fn.params.size → (s.fn H ds).results = [.lit (.bool true)] ∧ (s.fn H ds).args = ds ∧ (s.fn H ds).vars = [])
  (hres : fn.resultTypes.toList = [rt]) (hrt : C.prog.underlying rt = some .bool)
  (h : ∀ (W : World) (base : Nat) (args : Array Value) (ds : List (DataW H)) (ps : List MemPlace), (∀ (j : Nat) t v, fn.params[j]? = some t → args[j]? = some v → Value.okWide C.prog W .any base t v) →
   DataW.TrodAll enc C.prog W 0 (fun _ => true) true fn.params.toList args.toList ds ps → ((DataW.weightsEach C.prog (fn.params.toList ++ s.plain.varTypes C.prog) (ds ++ [])).all (· ≤ reachBytes)) = true →
   Calls C.prog f args W fun e W' => e = .returned (.bool true) ∧ Below W.heap.size W W') :
  ReturnsInHanded {} C os f .any (ChangeSpec.pre6 enc C.prog fn s conds false) (ChangeSpec.post enc C.prog fn s false true false false) := by
 refine returnsInHanded_of_change_sized (C := C) own started hinit hf wit ?_
 intro W base args ds gs before hval hW hcnd hsz _
 have hW' := hW
 obtain ⟨p, q, hA, hV, rfl, hfz, hnd⟩ := hW
 rw [hvars] at hV
 obtain ⟨rfl, rfl⟩ := trodVars_none hV
 refine (h W base args ds p hval hA hsz).mono ?_
 rintro e W' ⟨rfl, bel⟩
 have hlen : (ds ++ []).length = fn.params.size := by
  have := trodAll_length _ _ _ _ hA
  simpa using this
 obtain ⟨h1, h2, h3⟩ := hfn _ hlen
 have hsize : fn.resultTypes.size = 1 := by rw [← Array.length_toList, hres]; rfl
 refine ⟨_, rfl, ds, [], _, [], p, [], hW', ?_, ?_, ?_, bel.frame _, fun h => by cases h⟩
 ·rw [h1, hres, hsize]
  exact trodAll_mk1 (shut_bool hrt _)
 ·rw [h2, List.append_nil]
  refine trodAll_below laid bel _ _ _ _ (fun t ht => ?_) hA
  have := List.all_eq_true.1 hpar t ht
  simp only [Bool.and_eq_true, decide_eq_true_eq] at this
  exact this
 ·rw [h3, hvars]
  first | rfl | exact ⟨rfl, rfl⟩
end Go.AX
end
section
namespace Go.AX
open Go
def AH.ex (H : AH) (n : Nat) (g : Nat → Blk) : AH := ⟨n, fun b => if b < H.nx then H.g b else g b⟩
section
variable {H H1 H' : AH} {n b x : Nat} {g : Nat → Blk} {l m : List AV}
theorem no_other (h : x ≠ b) : (H.no b).g x = H.g x := by simp [AH.no, h]
theorem wr_rw' {l : List AV} {o : Nat} (hg : H.g b = .rw l) (h : o + m.length ≤ l.length) : H.wr b o m = some (H.up b (splice l o m)) := by
 simp only [AH.wr, hg, if_pos h]
theorem splice0 {l m : List AV} (h : m.length = l.length) : splice l 0 m = m := by
 unfold splice
 rw [List.take_zero, List.drop_of_length_le (by omega)]
 simp
end
section
variable {P : Program} {R : Fin} {k : List It} {E : Env} {H : AH} {ds : List ADef} {f : FuncId} {args : List AV} {d : Option Nat} {l : List ROper} {rk : List ROper} {L : List DOp}
def Gives (P : Program) (f : FuncId) (args : List AV) (H : AH) (Q : AV → AH → Prop) : Prop := Call P f args H fun r H' => ∃ v, r = .ret v ∧ Q v H' ∧ Ext H H'
end
def rdl (l : List AV) (o n : Nat) : Option (List AV) := if o + n ≤ l.length then some ((l.drop o).take n) else none
inductive Sl (H : AH) (es : Nat) : AV → Nat → List AV → Prop where
 | sn : Sl H es .sn 0 []
 | sl {b o n c : Nat} {l : List AV} : b < H.nx → (∀ i v, l[i]? = some v → (H.g b).cells[o + i]? = some v) → o + l.length ≤ (H.g b).cells.length → l.length = n * es → n ≤ c → Sl H es (.sl b o n c) n l
 | sg {b o q n : Nat} {l : List AV} : b < H.nx → (∀ i v, l[i]? = some v → (H.g b).cells[o + i]? = some v) → o + l.length ≤ (H.g b).cells.length → (H.g b).isRw = true → l.length = n * es → 0 < es → Sl H es (.sg b o q n es) n l
section
variable {H H' : AH} {es n : Nat} {v : AV} {l : List AV}
theorem Sl.cl (h : Sl H es v n l) : v.cl = some [v] := by cases h <;> rfl
theorem Sl.len (h : Sl H es v n l) (H' : AH) : vlen 1 H' v = some (.it .i64 n) := by cases h <;> rfl
theorem rd_at {b o k : Nat} {l : List AV} (h2 : ∀ i v, l[i]? = some v → (H.g b).cells[o + i]? = some v) (h3 : o + l.length ≤ (H.g b).cells.length) (hk : l.length = k) : H.rd b o k = some l := by
 unfold AH.rd
 rw [← hk, if_pos h3]
 congr 1
 apply List.ext_getElem?
 intro i
 rw [List.getElem?_take, List.getElem?_drop]
 by_cases hi : i < l.length
 ·rw [if_pos hi, List.getElem?_eq_getElem hi]
  exact h2 i _ (List.getElem?_eq_getElem hi)
 ·rw [if_neg hi, List.getElem?_eq_none (by omega)]
theorem Sl.sc (h : Sl H es v n l) : H.sc es v = some (n, l) := by
 cases h with
 | sn => rfl
 | sl h1 h2 h3 h4 h5 => simp only [AH.sc, rd_at h2 h3 h4, Option.map_some]
 | sg h1 h2 h3 h4 h5 h6 => simp only [AH.sc, h4, rd_at h2 h3 h5, Option.map_some, h6, and_self, if_true]
end
def SlE {α : Type} (H : AH) (es : Nat) (enc : α → List AV) (v : AV) (ys : List α) : Prop := Sl H es v ys.length (ys.flatMap enc) ∧ ∀ y ∈ ys, (enc y).length = es
section
variable {α : Type} {H H' : AH} {es : Nat} {enc : α → List AV} {v : AV} {ys : List α}
end
section
variable {α : Type} {H H' : AH} {es : Nat} {enc : α → List AV} {v : AV} {ys : List α}
def encI (k : IntKind) (n : Int) : List AV := [.it k n]
end
end Go.AX
end
