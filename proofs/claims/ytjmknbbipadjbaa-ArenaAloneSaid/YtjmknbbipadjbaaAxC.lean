/- AX, part C: what the operations yield, told over the abstract heap. -/
import Derived.Test.YtjmknbbipadjbaaAxB
set_option linter.unusedSimpArgs false
set_option linter.unusedVariables false
namespace Go.AX
open Go

inductive Opd where
  | t (n : Nat)
  | k (v : AV)
  | f (n : FuncId)
  deriving Inhabited
abbrev Env := Nat → AV
def ev (E : Env) : Opd → AV
  | .t n => E n
  | .k v => v
  | .f n => .fn (.func n) [] []
def Env.st (E : Env) (d : Nat) (v : AV) : Env := fun i => if i = d then v else E i
def Env.put (E : Env) : Option Nat → AV → Env
  | some d, v => E.st d v
  | none, _ => E

/-- A part that is laid into cells: where, how many, what. -/
structure Part where
  o : Nat
  n : Nat
  x : Opd
/-- How a type's values are held against each other. -/
inductive EqT where
  | no
  | bo
  | pt
  | ic
  | sl
  | mp
  | fn
  | ag (s : Nat) (l : List (Nat × Nat))
inductive VOp where
  | mv (x : Opd)
  | pick (c a b : Opd)
  | alloc (z : List AV)
  | box (x : Opd)
  | bld (z : List AV) (ps : List Part)
  | bsl (n : Nat) (z : List AV) (ps : List Part)
  | ld (n : Nat) (x : Opd)            -- a struct, an array
  | ld1 (x : Opd)
  | sto (n : Nat) (a x : Opd)
  | nilc (x : Opd)
  | bin (op : BinOp) (te : EqT) (cn : Bool) (x y : Opd)
  | un (op : UnOp) (x : Opd)
  | cvi (k : IntKind) (x : Opd)
  | cvsame (x : Opd)
  | mkif (t : TypeId) (x : Opd)
  | mkfn (f : Fn) (a c : List Opd)
  | mks (bytes : Nat) (z : List AV) (l c : Opd)
  | slc (es : Nat) (x : Opd) (lo hi mx : Option Opd)
  | slcs (x : Opd) (lo hi : Option Opd)
  | slca (n es : Nat) (x : Opd) (lo hi mx : Option Opd)
  | fa (o : Nat) (x : Opd)
  | fld (o n : Nat) (ag : Bool) (x : Opd)
  | ia (es : Nat) (x i : Opd)
  | iaa (n es : Nat) (x i : Opd)
  | ix (n es : Nat) (ag : Bool) (x i : Opd)
  | ixs (x i : Opd)
  | ext (x : Opd) (i : Nat)
  | ta (t : TypeId) (z : AV) (x : Opd)   -- v, ok := x.(T), T no interface
  | len (k : Nat) (x : Opd)   -- 0 a string, 1 a slice, 2 a map
  | lenk (n : Nat)
  | cap (x : Opd)
  | mm (mx : Bool) (xs : List Opd)
  | app (es bytes : Nat) (s x : Opd)
  | cpy (es : Nat) (d s : Opd)
  | mkm
  | lkp (z : AV) (ok : Bool) (x i : Opd)
  | mup (m k x : Opd)
  | mdel (m k : Opd)

/-! ### Pure values -/
def AV.pick : AV → AV → AV → Option AV
  | .bo c, a, b => some (bif c then a else b)
  | _, _, _ => none
def sceq : AV → AV → Option Bool
  | .it k a, .it k' b => if k = k' then some (a == b) else none
  | .bo a, .bo b => some (a == b)
  | .st a, .st b => some (a.toList == b.toList)
  | _, _ => none
/-- Of a kind: 0 a number, 1 a bool, 2 a string. -/
def sceqK : Nat → AV → AV → Option Bool
  | 0, .it k a, .it k' b => if k = k' then some (a == b) else none
  | 1, .bo a, .bo b => some (a == b)
  | 2, .st a, .st b => some (a.toList == b.toList)
  | _, _, _ => none
def alleq (xs ys : List AV) : List (Nat × Nat) → Option Bool
  | [] => some true
  | o :: r => (xs[o.1]?).bind fun a => (ys[o.1]?).bind fun b => (sceqK o.2 a b).bind fun e => (alleq xs ys r).bind fun q => some (e && q)
def veq (te : EqT) (cn : Bool) (x y : AV) : Option Bool :=
  match te with
  | .no => none
  | .bo => match x, y with | .bo a, .bo b => some (a == b) | _, _ => none
  | .pt => match x, y with | .np, .np => some true | .np, .pt _ _ => some false | .pt _ _, .np => some false | _, _ => none
  | .ic => match x, y with | .ni, .ni => if cn then some true else none | .ni, .fc _ _ => some false | .fc _ _, .ni => some false | _, _ => none
  | .sl => match x, y with | .sn, .sn => some true | .sn, .sl _ _ _ _ => some false | .sn, .sg _ _ _ _ _ => some false | .sl _ _ _ _, .sn => some false | .sg _ _ _ _ _, .sn => some false | _, _ => none
  | .mp => match x, y with | .mn, .mn => some true | .mn, .mp _ => some false | .mp _, .mn => some false | _, _ => none
  | .fn => match x, y with | .nf, .nf => some true | .nf, .fn _ _ _ => some false | .fn _ _ _, .nf => some false | _, _ => none
  | .ag s l => match x, y with | .ag xs, .ag ys => if xs.length = s ∧ ys.length = s then alleq xs ys l else none | _, _ => none
def intBin (op : BinOp) (k : IntKind) (a b : Int) : Option AV :=
  match op with
  | .add => some (.it k (k.wrap (a + b)))
  | .sub => some (.it k (k.wrap (a - b)))
  | .mul => some (.it k (k.wrap (a * b)))
  | .quo => if b = 0 then none else some (.it k (k.wrap (a.tdiv b)))
  | .rem => if b = 0 then none else some (.it k (a.tmod b))
  | .and => some (.it k (Go.bits .and k a b))
  | .or => some (.it k (Go.bits .or k a b))
  | .xor => some (.it k (Go.bits .xor k a b))
  | .andNot => some (.it k (Go.bits .andNot k a b))
  | .eql => some (.bo (a == b))
  | .neq => some (.bo (a != b))
  | .lss => some (.bo (decide (a < b)))
  | .leq => some (.bo (decide (a ≤ b)))
  | .gtr => some (.bo (decide (a > b)))
  | .geq => some (.bo (decide (a ≥ b)))
  | _ => none
def shBin (op : BinOp) (k : IntKind) (a b : Int) : Option AV :=
  if b < 0 then none else
  match op with
  | .shl => some (.it k (k.wrap (a * 2 ^ (min b.toNat k.bits))))
  | .shr => some (.it k (a.fdiv (2 ^ (min b.toNat k.bits))))
  | _ => none
def BinOp.isSh : BinOp → Bool
  | .shl => true
  | .shr => true
  | _ => false
def vbin (op : BinOp) (te : EqT) (cn : Bool) : AV → AV → Option AV
  | .it k a, .it k' b => if BinOp.isSh op then shBin op k a b else if k = k' then intBin op k a b else none
  | .st a, .st b =>
    match op with
    | .eql => some (.bo (a.toList == b.toList))
    | .neq => some (.bo (!(a.toList == b.toList)))
    | _ => none
  | x, y =>
    match op with
    | .eql => (veq te cn x y).map .bo
    | .neq => (veq te cn x y).map fun e => .bo (!e)
    | _ => none
def vun (op : UnOp) : AV → Option AV
  | .bo a => match op with | .not => some (.bo (!a)) | _ => none
  | .it k a => match op with
    | .neg => some (.it k (k.wrap (0 - a)))
    | .xor => some (.it k (Go.bits .xor k (if k.signed then -1 else k.max) a))
    | _ => none
  | _ => none
def vcvi (k : IntKind) : AV → Option AV
  | .it _ n => some (.it k (k.wrap n))
  | _ => none
/-- Cells out of cells: a value of so many, from one on. -/
def apart (l : List AV) (o n : Nat) (ag : Bool) : Option AV :=
  match ag with
  | true => if o + n ≤ l.length then some (.ag ((l.drop o).take n)) else none
  | false => l[o]?
def vfld (o n : Nat) (ag : Bool) : AV → Option AV
  | .ag l => apart l o n ag
  | _ => none
def vix (n es : Nat) (ag : Bool) : AV → AV → Option AV
  | .ag l, .it _ i => if 0 ≤ i ∧ i < n then apart l (i.toNat * es) es ag else none
  | _, _ => none
def vixs : AV → AV → Option AV
  | .st s, .it _ i => if h : 0 ≤ i ∧ i.toNat < s.size then some (.it .u8 ((s[i.toNat]'h.2).toNat : Int)) else none
  | _, _ => none
def vext (i : Nat) : AV → Option AV
  | .tu l => l[i]?
  | _ => none
def vta (t : TypeId) (z : AV) : AV → Option AV
  | .ni => some (.tu [z, .bo false])
  | .fc u v => if u = t then some (.tu [v, .bo true]) else some (.tu [z, .bo false])
  | _ => none
def vfa (o : Nat) : AV → Option AV
  | .pt b p => some (.pt b (p + o))
  | _ => none
def via (es : Nat) (H : AH) : AV → AV → Option AV
  | .sl b o n _, .it _ i => if 0 ≤ i ∧ i < n then some (.pt b (o + i.toNat * es)) else none
  | .sg b o _ n es', .it _ i => if es' = es ∧ 0 < es ∧ o + n * es ≤ (H.g b).cells.length ∧ (H.g b).isRw = true ∧ 0 ≤ i ∧ i < n then some (.pt b (o + i.toNat * es)) else none
  | _, _ => none
def viaa (n es : Nat) : AV → AV → Option AV
  | .pt b o, .it _ i => if 0 ≤ i ∧ i < n then some (.pt b (o + i.toNat * es)) else none
  | _, _ => none
def vlen (k : Nat) (H : AH) (x : AV) : Option AV :=
  match k with
  | 0 => match x with | .st s => some (.it .i64 s.size) | _ => none
  | 1 => match x with | .sn => some (.it .i64 0) | .sl _ _ n _ => some (.it .i64 n) | .sg _ _ _ n _ => some (.it .i64 n) | _ => none
  | _ => match x with | .mn => some (.it .i64 0) | .mp b => (match H.g b with | .mp es => some (.it .i64 es.length) | _ => none) | _ => none
def vcap : AV → Option AV
  | .sn => some (.it .i64 0)
  | .sl _ _ _ c => some (.it .i64 c)
  | _ => none
def mm2 (mx : Bool) : AV → AV → Option AV
  | .it k x, .it _ y => some (.it k (match mx with | true => if y > x then y else x | false => if y < x then y else x))
  | _, _ => none
def mmL (mx : Bool) : AV → List AV → Option AV
  | a, [] => some a
  | a, b :: r => (mm2 mx a b).bind fun c => mmL mx c r
def vnilc : AV → Option AV
  | .pt b o => some (.pt b o)
  | .fn (.func f) a c => some (.fn (.func f) a c)
  | _ => none
/-- A bound of a slice expression. -/
def bnd (E : Env) (d : Nat) (top : Nat) : Option Opd → Option Nat
  | none => some d
  | some x => match ev E x with | .it _ i => if 0 ≤ i ∧ i ≤ top then some i.toNat else none | _ => none
def slcSl (es b o : Nat) (l h m : Nat) : AV := .sl b (if m = l then o else o + l * es) (h - l) (m - l)
def vslc (es : Nat) (H : AH) (E : Env) (x : AV) (lo hi mx : Option Opd) : Option AV :=
  match x with
  | .sn => (bnd E 0 0 mx).bind fun m => (bnd E 0 m hi).bind fun h => (bnd E 0 h lo).bind fun l => some .sn
  | .sl b o n c => (bnd E c c mx).bind fun m => (bnd E n m hi).bind fun h => (bnd E 0 h lo).bind fun l => some (slcSl es b o l h m)
  | .sg b o q n es' =>
    if es' = es ∧ 0 < es ∧ o + n * es ≤ (H.g b).cells.length ∧ (H.g b).isRw = true then
      match mx with
      | none => (bnd E n n hi).bind fun h => (bnd E 0 h lo).bind fun l => some (if l = 0 then .sg b o q h es else .sg b (o + l * es) o (h - l) es)
      | some m => (bnd E n n (some m)).bind fun m => (bnd E n m hi).bind fun h => (bnd E 0 h lo).bind fun l => if o = q ∨ l < m then some (slcSl es b o l h m) else none
    else none
  | _ => none
def vslcs (E : Env) (x : AV) (lo hi : Option Opd) : Option AV :=
  match x with
  | .st s => (bnd E s.size s.size hi).bind fun h => (bnd E 0 h lo).bind fun l => some (.st (s.extract l h))
  | _ => none
def vslca (n es : Nat) (E : Env) (x : AV) (lo hi mx : Option Opd) : Option AV :=
  match x with
  | .pt b o => (bnd E n n mx).bind fun m => (bnd E n m hi).bind fun h => (bnd E 0 h lo).bind fun l => some (slcSl es b o l h m)
  | _ => none
/-- Parts laid into cells. -/
def vfill (E : Env) : List AV → List Part → Option (List AV)
  | cs, [] => some cs
  | cs, p :: r => (ev E p.x).cl.bind fun m => if m.length = p.n ∧ p.o + p.n ≤ cs.length then vfill E (splice cs p.o m) r else none

/-! ### Memory -/
def AH.no (H : AH) (b : Nat) : AH := ⟨H.nx, fun x => if x = b then .no else H.g x⟩
def AH.mpb (H : AH) (es : List (AV × AV)) : AH := ⟨H.nx + 1, fun b => if b = H.nx then .mp es else H.g b⟩
def AH.mup (H : AH) (b : Nat) (es : List (AV × AV)) : AH := ⟨H.nx, fun x => if x = b then .mp es else H.g x⟩
/-- A slice's cells. -/
def AH.sc (H : AH) (es : Nat) : AV → Option (Nat × List AV)
  | .sn => some (0, [])
  | .sl b o n _ => (H.rd b o (n * es)).map fun l => (n, l)
  | .sg b o _ n es' => if es' = es ∧ 0 < es ∧ (H.g b).isRw = true then (H.rd b o (n * es)).map fun l => (n, l) else none
  | _ => none
def vapp (es bytes : Nat) (H : AH) (s : AV) (n : Nat) (m : List AV) : Option (AV × AH) :=
  match s with
  | .sn => if n = 0 then some (.sn, H) else if n * bytes ≤ 140737488355328 then some (.sg H.nx 0 0 n es, H.al m) else none
  | .sl b o k c =>
    if n = 0 then if k ≤ c then some (.sl b o k c, H) else none
    else if k + n ≤ c then (H.wr b (o + k * es) m).map fun H' => (.sl b o (k + n) c, H')
    else if (k + n) * bytes ≤ 140737488355328 then (H.rd b o (k * es)).map fun l => (.sg H.nx 0 0 (k + n) es, H.al (l ++ m)) else none
  | .sg b o q k es' =>
    if es' = es ∧ 0 < es ∧ o + k * es ≤ (H.g b).cells.length ∧ (H.g b).isRw = true then
      if n = 0 then some (.sg b o q k es, H)
      else if o + (k + n) * es ≤ (H.g b).cells.length then (H.wr b (o + k * es) m).map fun H' => (.sg b o q (k + n) es, H')
      else if o = 0 ∧ q = 0 ∧ (k + n) * bytes ≤ 140737488355328 then (H.rd b 0 (k * es)).map fun l => (.sg H.nx 0 0 (k + n) es, (H.al (l ++ m)).no b) else none
    else none
  | _ => none
def vcpy (es : Nat) (H : AH) (d : AV) (n : Nat) (m : List AV) : Option (AV × AH) :=
  match d with
  | .sn => some (.it .i64 0, H)
  | .sl b o k _ => (H.wr b o (m.take (min n k * es))).map fun H' => (.it .i64 (min n k : Nat), H')
  | .sg b o _ k es' => if es' = es ∧ 0 < es ∧ 0 < k ∧ o + k * es ≤ (H.g b).cells.length ∧ (H.g b).own = true then (H.wr b o (m.take (min n k * es))).map fun H' => (.it .i64 (min n k : Nat), H') else none
  | _ => none
def mfind (k : AV) : List (AV × AV) → Option (Option AV)
  | [] => some none
  | e :: r => match sceq k e.1 with | some true => some (some e.2) | some false => mfind k r | none => none
def mset (k v : AV) : List (AV × AV) → Option (List (AV × AV))
  | [] => some [(k, v)]
  | e :: r => match sceq k e.1 with | some true => some ((k, v) :: r) | some false => (mset k v r).map (e :: ·) | none => none
def mdel (k : AV) : List (AV × AV) → Option (List (AV × AV))
  | [] => some []
  | e :: r => match sceq k e.1 with | some true => some r | some false => (mdel k r).map (e :: ·) | none => none
/-- A map's entries. -/
def AH.me (H : AH) : AV → Option (List (AV × AV))
  | .mn => some []
  | .mp b => match H.g b with | .mp es => some es | _ => none
  | _ => none
def vsto (n : Nat) (H : AH) (a x : AV) : Option (AV × AH) :=
  match a with
  | .pt b o => x.cl.bind fun m => if m.length = n then (H.wr b o m).map fun H' => (.tu [], H') else none
  | _ => none
def vld (n : Nat) (H : AH) : AV → Option AV
  | .pt b o => (H.rd b o n).map .ag
  | _ => none
def vld1 (H : AH) : AV → Option AV
  | .pt b o => (H.g b).cells[o]?
  | _ => none
def vmks (bytes : Nat) (z : List AV) (H : AH) : AV → AV → Option (AV × AH)
  | .it _ l, .it _ c => if 0 ≤ l ∧ l ≤ c ∧ c ≤ 9223372036854775807 ∧ (bytes : Int) * c ≤ 140737488355328 then some (.sl H.nx 0 l.toNat c.toNat, H.al (List.replicate c.toNat z).flatten) else none
  | _, _ => none
def vcvsame (H : AH) : AV → Option AV
  | .sl b o n c => if (H.g b).own = true then some (.sl b o n c) else none
  | _ => none

/-- What an operation yields, and the heap behind it. -/
def vop : VOp → Env → AH → Option (AV × AH)
  | .mv x, E, H => some (ev E x, H)
  | .pick c a b, E, H => (AV.pick (ev E c) (ev E a) (ev E b)).map (·, H)
  | .alloc z, _, H => some (.pt H.nx 0, H.al z)
  | .box x, E, H => (ev E x).cl.map fun l => (.pt H.nx 0, H.al l)
  | .bld z ps, E, H => (vfill E z ps).map fun l => (.ag l, H)
  | .bsl n z ps, E, H => (vfill E z ps).map fun l => (.sl H.nx 0 n n, H.al l)
  | .ld n x, E, H => (vld n H (ev E x)).map (·, H)
  | .ld1 x, E, H => (vld1 H (ev E x)).map (·, H)
  | .sto n a x, E, H => vsto n H (ev E a) (ev E x)
  | .nilc x, E, H => (vnilc (ev E x)).map (·, H)
  | .bin op te cn x y, E, H => (vbin op te cn (ev E x) (ev E y)).map (·, H)
  | .un op x, E, H => (vun op (ev E x)).map (·, H)
  | .cvi k x, E, H => (vcvi k (ev E x)).map (·, H)
  | .cvsame x, E, H => (vcvsame H (ev E x)).map (·, H)
  | .mkif t x, E, H => some (.fc t (ev E x), H)
  | .mkfn f a c, E, H => some (.fn f (a.map (ev E)) (c.map (ev E)), H)
  | .mks bytes z l c, E, H => vmks bytes z H (ev E l) (ev E c)
  | .slc es x lo hi mx, E, H => (vslc es H E (ev E x) lo hi mx).map (·, H)
  | .slcs x lo hi, E, H => (vslcs E (ev E x) lo hi).map (·, H)
  | .slca n es x lo hi mx, E, H => (vslca n es E (ev E x) lo hi mx).map (·, H)
  | .fa o x, E, H => (vfa o (ev E x)).map (·, H)
  | .fld o n ag x, E, H => (vfld o n ag (ev E x)).map (·, H)
  | .ia es x i, E, H => (via es H (ev E x) (ev E i)).map (·, H)
  | .iaa n es x i, E, H => (viaa n es (ev E x) (ev E i)).map (·, H)
  | .ix n es ag x i, E, H => (vix n es ag (ev E x) (ev E i)).map (·, H)
  | .ixs x i, E, H => (vixs (ev E x) (ev E i)).map (·, H)
  | .ext x i, E, H => (vext i (ev E x)).map (·, H)
  | .ta t z x, E, H => (vta t z (ev E x)).map (·, H)
  | .len k x, E, H => (vlen k H (ev E x)).map (·, H)
  | .lenk n, _, H => some (.it .i64 n, H)
  | .cap x, E, H => (vcap (ev E x)).map (·, H)
  | .mm mx xs, E, H => match xs with | [] => none | x :: r => (mmL mx (ev E x) (r.map (ev E))).map (·, H)
  | .app es bytes s x, E, H => (H.sc es (ev E x)).bind fun nm => vapp es bytes H (ev E s) nm.1 nm.2
  | .cpy es d s, E, H => (H.sc es (ev E s)).bind fun nm => vcpy es H (ev E d) nm.1 nm.2
  | .mkm, _, H => some (.mp H.nx, H.mpb [])
  | .lkp z ok x i, E, H => (H.me (ev E x)).bind fun es => (mfind (ev E i) es).map fun r => (if ok then .tu [r.getD z, .bo r.isSome] else r.getD z, H)
  | .mup m k x, E, H => match ev E m with | .mp b => (H.me (.mp b)).bind fun es => (mset (ev E k) (ev E x) es).map fun es' => (.tu [], H.mup b es') | _ => none
  | .mdel m k, E, H => match ev E m with | .mp b => (H.me (.mp b)).bind fun es => (mdel (ev E k) es).map fun es' => (.tu [], H.mup b es') | _ => none

end Go.AX
