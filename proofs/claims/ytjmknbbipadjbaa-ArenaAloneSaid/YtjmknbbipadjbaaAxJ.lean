/- AX, part J: code, resolved; how it runs over the abstract heap. -/
import Derived.Test.YtjmknbbipadjbaaAxN
set_option linter.unusedSimpArgs false
set_option linter.unusedVariables false
namespace Go.AX
open Go

inductive ROp where
  | v (o : VOp)
  | call (f : FuncId) (args : List Opd)
  | calv (f : Opd) (args : List Opd)
  | pan (x : Opd)
  | dfr (f : Opd) (args : List Opd)
structure ROper where
  d : Option Nat
  g : Option (Nat × Bool)
  o : ROp
/-! ### Resolving -/
def resG (ops : Array Oper) : Option (Nat × Bool) → Option (Option (Nat × Bool))
  | none => some none
  | some (i, b) => ((ops[i]?).bind (·.dst)).map fun d => some (d, b)
def dstOk (nt : Nat) : Option Nat → Bool
  | none => true
  | some d => decide (d < nt)
def resP (P : Program) (nt : Nat) (o : Oper) : Option ROp :=
  match o.op with
  | .call { callee := .value (.func f), args, .. } =>
    match P.funcs[f]? with
    | some fn => if fn.body.isSome && !(fn.name == "runtime.NumGoroutine") then (resL nt args.toList).map (.call f) else none
    | none => none
  | .call { callee := .value x, args, .. } => (resO nt x).bind fun x => (resL nt args.toList).map (.calv x)
  | .panic x => (resO nt x).map .pan
  | .defer { callee := .value x, args, .. } => (resO nt x).bind fun x => (resL nt args.toList).map (.dfr x)
  | _ => (resV P nt o).map .v
def resR (P : Program) (nt : Nat) (ops : Array Oper) (o : Oper) : Option ROper :=
  if dstOk nt o.dst then (resG ops o.guard).bind fun g => if dstOk nt (g.map (·.1)) then (resP P nt o).map fun r => ⟨o.dst, g, r⟩ else none else none
def resOps (P : Program) (nt : Nat) (ops : Array Oper) : List Oper → Option (List ROper)
  | [] => some []
  | o :: r => (resR P nt ops o).bind fun x => (resOps P nt ops r).map (x :: ·)
/-! ### How a body ends -/
structure PE where
  v : AV
  r : Bool
def PE.con (j : Inj) (p : PE) : PanicEntry := { v := p.v.con j, recovered := p.r }
structure ADef where
  f : FuncId
  args : List AV
inductive BOut where
  | ret
  | pan (l : List PE)
inductive AEnd where
  | ret (v : AV)
  | pan (l : List PE)
def AEnd.ok (D : Nat → Prop) : AEnd → Prop
  | .ret v => v.ok D
  | .pan l => ∀ p ∈ l, p.v.ok D
def AEnd.con (j : Inj) : AEnd → Ending
  | .ret v => .returned (v.con j)
  | .pan l => .panicked (l.map (PE.con j))

/-- A function, called: how it ends, and the heap behind it: in whatever world the heap lies. -/
def CallT (P : Program) (f : FuncId) (args : List AV) (H : AH) (r : AEnd) (H' : AH) : Prop :=
  ∀ base D j w, Sim base D j H w → AV.okL D args → Calls P f (AV.conL j args).toArray w fun e w' => ∃ j', e = r.con j' ∧ r.ok (Dnew D H H') ∧ Post base D j H w H' w' j'

def gwant (E : Env) : Option (Nat × Bool) → Option Bool
  | none => some true
  | some (t, b) => match E t with | .bo c => some (c == b) | .tu [] => some false | _ => none
def vals (E : Env) (l : List Opd) : List AV := l.map (ev E)
def funOf (args : List AV) : AV → Option (FuncId × List AV)
  | .fn (.func f) a c => some (f, a ++ args ++ c)
  | _ => none

/-! ### Regions that draw their order -/
instance : Inhabited ROper := ⟨⟨none, none, .v (.lenk 0)⟩⟩
/-- An operation of such a region, and which ones it must leave as they are. -/
structure DOp where
  r : ROper
  rk : List ROper
def ROp.opds : ROp → List Opd
  | .v vo => vo.opds
  | .call _ args => args
  | .calv x args => x :: args
  | .pan x => [x]
  | .dfr x args => x :: args
def opdT : List Opd → List Nat
  | [] => []
  | .t n :: r => n :: opdT r
  | _ :: r => opdT r
/-- The temporaries that it names. -/
def ROper.reads (r : ROper) : List Nat := (r.g.map (·.1)).toList ++ opdT r.o.opds
def ROper.names (r : ROper) : List Nat := r.d.toList ++ r.reads
def ROper.act (r : ROper) : Bool := match r.o with | .v vo => vo.cls == 2 | _ => true
def ROper.pure (r : ROper) : Bool := match r.o with | .v vo => vo.pure | _ => false

def sameB (v : AV) (H H' : AH) : Prop := match v with | .pt b _ => H'.g b = H.g b | .sl b _ _ _ => H'.g b = H.g b | _ => False
/-- An operation that came before, and might have come behind: it would have yielded the same. -/
def Rechk (r : ROper) (E : Env) (H H' : AH) : Prop :=
  ∀ d, r.d = some d → gwant E r.g = some false ∨ match r.o with
    | .v vo => if vo.cls = 1 then sameB (E d) H H' else vop vo E H' = some (E d, H')
    | _ => False
def Rechks (rk : List ROper) (E : Env) (H H' : AH) : Prop := ∀ r ∈ rk, r.d.isSome = true ∧ Rechk r E H H'
def DStep (P : Program) (x : DOp) (E : Env) (H : AH) (E1 : Env) (H1 : AH) : Prop :=
  ∃ g, gwant E x.r.g = some g ∧ if g = true then
    match x.r.o with
    | .v vo => ∃ v, vop vo E H = some (v, H1) ∧ E1 = E.put x.r.d v ∧ Rechks x.rk E1 H H1
    | .call f args => ∃ v, CallT P f (vals E args) H (.ret v) H1 ∧ E1 = E.put x.r.d v ∧ Rechks x.rk E1 H H1
    | .calv c args => ∃ f as v, funOf (vals E args) (ev E c) = some (f, as) ∧ (∃ fn, P.funcs[f]? = some fn ∧ (fn.body.isSome && !(fn.name == "runtime.NumGoroutine")) = true) ∧ CallT P f as H (.ret v) H1 ∧ E1 = E.put x.r.d v ∧ Rechks x.rk E1 H H1
    | _ => False
  else E1 = E.put x.r.d (.tu []) ∧ H1 = H
def DT (P : Program) : List DOp → Env → AH → Env → AH → Prop
  | [], E, H, E', H' => E' = E ∧ H' = H
  | x :: r, E, H, E', H' => ∃ E1 H1, DStep P x E H E1 H1 ∧ DT P r E1 H1 E' H'
/-! ### The look at a region's text -/
def orE (cl : List Nat) (o : Oper) : Nat := o.after.toList.foldl (fun s e => if Region.binds .any e then s ||| (2 ^ e.on ||| cl.getD e.on 0) else s) 0
def cmpB (cl : List Nat) (i j : Nat) : Bool := (cl.getD j 0).testBit i
def allP (n : Nat) (f : Nat → Bool) : Bool := (List.range n).all f
def rkOf (cl ord : List Nat) (l : List ROper) (q : Nat) : List ROper :=
  if (l.getD q default).act then ((List.range q).filter fun p => !(l.getD p default).act && !(l.getD p default).pure && !cmpB cl (ord.getD p 0) (ord.getD q 0)).map fun p => l.getD p default else []
def mkD (cl ord : List Nat) (l : List ROper) : List DOp := (List.range l.length).map fun q => ⟨l.getD q default, rkOf cl ord l q⟩
def pairR (cl ord : List Nat) (l : List ROper) (p q : Nat) : Bool :=
  let x := fun p => ord.getD p 0
  let r := fun p => l.getD p default
  (x p != x q) &&
   (!decide (p < q) || (!cmpB cl (x q) (x p) && (!(r p).act || cmpB cl (x p) (x q)))) &&
   (!(r p).d.any (fun d => (r q).names.contains d) || cmpB cl (x p) (x q) || cmpB cl (x q) (x p)) &&
   (!(decide (p < q) && (r q).act && !(r p).act && !(r p).pure && !cmpB cl (x p) (x q)) ||
     ((r p).d.isSome && !(r p).d.any (fun d => (r p).reads.contains d) && (List.range (q + 1)).all fun s => decide (s ≤ p) || !(r s).d.any fun d => (r p).names.contains d))
def pairOk (cl ord : List Nat) (l : List ROper) (p q : Nat) : Bool := p == q || pairR cl ord l p q
def dOk (ops : Array Oper) (cl ord : List Nat) (l : List ROper) : Bool :=
  let n := ops.size
  ord.length == n && l.length == n &&
  allP n (fun i => ord.contains i) && allP n (fun p => decide (ord.getD p 0 < n)) &&
  allP n (fun j => (cl.getD j 0 == orE cl (ops.getD j default)) && (ops.getD j default).after.toList.all fun e => !Region.binds .any e || decide (e.on < j)) &&
  allP n fun p => allP n fun q => pairOk cl ord l p q

/-! ### Bodies -/
inductive RC where
  | skip
  | reg (l : List ROper)
  | regd (l : List DOp)
  | seq (a b : RC)
  | cond (c : Opd) (a b : RC)
  | block (id : Nat) (a : RC)
  | loop (a : RC)
  | exit (id : Nat)
  | ret
inductive It where
  | c (c : RC)
  | o (l : List ROper)
  | blk (id : Nat)
  | lp (c : RC)

/-- One order of such a region: what acts comes last. -/
def preE (o : Oper) : Nat := o.after.toList.foldl (fun s e => if Region.binds .any e then s ||| 2 ^ e.on else s) 0
def findQ : List (ROper × Nat) → Nat → Nat → Bool → Option Nat
  | [], _, _, _ => none
  | x :: r, i, done, b => if !done.testBit i && (x.2 &&& done == x.2) && (b || !x.1.act) then some i else findQ r (i + 1) done b
def greedy (zs : List (ROper × Nat)) : Nat → Nat → List Nat
  | 0, _ => []
  | n + 1, done =>
    match findQ zs 0 done false with
    | some i => i :: greedy zs n (done ||| 2 ^ i)
    | none =>
      match findQ zs 0 done true with
      | some i => i :: greedy zs n (done ||| 2 ^ i)
      | none => []
def mkCl : List Oper → List Nat → List Nat
  | [], cl => cl
  | o :: r, cl => mkCl r (cl ++ [orE cl o])
def resD2 (ops : Array Oper) (cl ord : List Nat) (l : List ROper) : Option (List DOp) := if dOk ops cl ord l then some (mkD cl ord l) else none
def resD1 (ops : Array Oper) (cl ord : List Nat) (l : List ROper) : Option (List DOp) := resD2 ops cl ord (ord.map fun i => l.getD i default)
def resD (P : Program) (nt : Nat) (ops : Array Oper) : Option (List DOp) :=
  if P.follows .mixedOrders then (resOps P nt ops ops.toList).bind fun l => resD1 ops (mkCl ops.toList []) (greedy (l.zip (ops.toList.map preE)) ops.size 0) l else none
def resC (P : Program) (nt : Nat) : Code → Option RC
  | .skip => some .skip
  | .region _ ops draw => if draw then (resD P nt ops).map .regd else (resOps P nt ops ops.toList).map .reg
  | .seq a b => (resC P nt a).bind fun a => (resC P nt b).map (.seq a ·)
  | .cond c a b => (resO nt c).bind fun c => (resC P nt a).bind fun a => (resC P nt b).map (.cond c a ·)
  | .block id a => (resC P nt a).map (.block id)
  | .loop a => (resC P nt a).map .loop
  | .exit id => some (.exit id)
  | .ret => some .ret
  | _ => none

def itExit (id : Nat) : List It → Option (List It)
  | .blk i :: k => if i == id then some k else itExit id k
  | _ :: k => itExit id k
  | [] => none

def Fin := BOut → Env → AH → List ADef → Prop

/-- A call's way on. -/
def AtEnd (R : Fin) (X : List It → Env → AH → List ADef → Prop) (r : AEnd) (d : Option Nat) (l : List ROper) (k : List It) (E : Env) (H : AH) (ds : List ADef) : Prop :=
  match r with
  | .ret v => X (.o l :: k) (E.put d v) H ds
  | .pan p => R (.pan p) E H ds
/-- So many steps. -/
def XF (P : Program) (R : Fin) : Nat → List It → Env → AH → List ADef → Prop
  | 0, _, _, _, _ => False
  | n + 1, k, E, H, ds =>
    match k with
    | [] => R .ret E H ds
    | .blk _ :: k => XF P R n k E H ds
    | .lp c :: k => XF P R n (.c c :: .lp c :: k) E H ds
    | .c .skip :: k => XF P R n k E H ds
    | .c (.reg l) :: k => XF P R n (.o l :: k) E H ds
    | .c (.regd l) :: k => ∃ E' H', DT P l E H E' H' ∧ XF P R n k E' H' ds
    | .c (.seq a b) :: k => XF P R n (.c a :: .c b :: k) E H ds
    | .c (.cond c a b) :: k => ∃ t, ev E c = .bo t ∧ XF P R n (.c (bif t then a else b) :: k) E H ds
    | .c (.block id a) :: k => XF P R n (.c a :: .blk id :: k) E H ds
    | .c (.loop a) :: k => XF P R n (.c a :: .lp a :: k) E H ds
    | .c (.exit id) :: k => ∃ k', itExit id k = some k' ∧ XF P R n k' E H ds
    | .c .ret :: _ => R .ret E H ds
    | .o [] :: k => XF P R n k E H ds
    | .o (o :: l) :: k => ∃ g, gwant E o.g = some g ∧ if g = true then
        match o.o with
        | .v vo => ∃ v H', vop vo E H = some (v, H') ∧ XF P R n (.o l :: k) (E.put o.d v) H' ds
        | .call f args => ∃ r H', CallT P f (vals E args) H r H' ∧ AtEnd R (XF P R n) r o.d l k E H' ds
        | .calv x args => ∃ f as, funOf (vals E args) (ev E x) = some (f, as) ∧ (∃ fn, P.funcs[f]? = some fn ∧ (fn.body.isSome && !(fn.name == "runtime.NumGoroutine")) = true) ∧ ∃ r H', CallT P f as H r H' ∧ AtEnd R (XF P R n) r o.d l k E H' ds
        | .pan x => ∃ t v, ev E x = .fc t v ∧ R (.pan [⟨.fc t v, false⟩]) E H ds
        | .dfr x args => ∃ f as, funOf (vals E args) (ev E x) = some (f, as) ∧ XF P R n (.o l :: k) (E.put o.d (.tu [])) H (⟨f, as⟩ :: ds)
      else XF P R n (.o l :: k) (E.put o.d (.tu [])) H ds
def X (P : Program) (R : Fin) (k : List It) (E : Env) (H : AH) (ds : List ADef) : Prop := ∃ n, XF P R n k E H ds

end Go.AX
