/- The functions of this seat, as typed functions of Lean, written by a program; each with its proof. -/
import Derived.Test.YtfddldedbnknpaaGsA
import Derived.Test.YtfddldedbnknpaaGeB
import Derived.Test.YtfddldedbnknpaaProg
import Derived.KernelRfl
section
set_option linter.unusedVariables false
set_option maxRecDepth 100000
namespace Go.AX
open Go
abbrev fn_torporref01_Ints : FuncId := 18
def sg_torporref01_Ints : Sig := ⟨⟨[(0, .vs 0 (.int .i64)), (1, .vs 0 (.int .i64))], []⟩, [⟨[(0, .bo)], []⟩]⟩
def torporref01_Ints_g (LP : LPT) : ((List Int) × List Int) → Option (Bool) := fun (x1, x2) =>
  bif !decide ((x1.length : Int) = (x2.length : Int)) then some false
  else 
    (LP ((List Int) × (List Int) × Int) (Bool) (fun (x3, x4, x5) =>
      bif decide (x5 < (x3.length : Int)) then 
          (bif decide (0 ≤ x5) && decide (x5 < (x3.length : Int)) then 
            (bif decide (0 ≤ x5) && decide (x5 < (x4.length : Int)) then 
              (bif !decide ((Ty.at (.int .i64) x3 x5.toNat) = (Ty.at (.int .i64) x4 x5.toNat)) then some (.inr false)
              else some (.inl (x3, x4, IntKind.i64.wrap (x5 + (1 : Int)))))
              else none)
            else none)
      else some (.inr true))
      (x1, x2, 0))
def torporref01_Ints : ((List Int) × List Int) → Option (Bool) := torporref01_Ints_g LOOPx
theorem torporref01_Ints_ok : FnOK Go.Proofs.Try.prog fn_torporref01_Ints sg_torporref01_Ints torporref01_Ints := fn_of (P := Go.Proofs.Try.prog) (f := fn_torporref01_Ints) (sg := sg_torporref01_Ints) (sgs := []) (Gd := fun LP gs => torporref01_Ints_g LP) (hn := []) (h := [(14, false, ⟨[(0, .vs 0 (.int .i64)), (1, .vs 0 (.int .i64)), (5, .it .i64)], []⟩)]) (()) trivial (by kernel_rfl) (by kernel_rfl)
abbrev fn_torporref07_Has : FuncId := 48
def sg_torporref07_Has : Sig := ⟨⟨[(0, .vs 0 (.int .i64)), (1, .it .i64)], []⟩, [⟨[(0, .bo)], []⟩]⟩
def torporref07_Has_g (LP : LPT) : ((List Int) × Int) → Option (Bool) := fun (x1, x2) =>
  LP ((List Int) × Int × Int) (Bool) (fun (x3, x4, x5) =>
    bif decide (x5 < (x3.length : Int)) then 
        (bif decide (0 ≤ x5) && decide (x5 < (x3.length : Int)) then 
          (bif decide ((Ty.at (.int .i64) x3 x5.toNat) = x4) then some (.inr true)
          else some (.inl (x3, x4, IntKind.i64.wrap (x5 + (1 : Int)))))
          else none)
    else some (.inr false))
    (x1, x2, 0)
def torporref07_Has : ((List Int) × Int) → Option (Bool) := torporref07_Has_g LOOPx
theorem torporref07_Has_ok : FnOK Go.Proofs.Try.prog fn_torporref07_Has sg_torporref07_Has torporref07_Has := fn_of (P := Go.Proofs.Try.prog) (f := fn_torporref07_Has) (sg := sg_torporref07_Has) (sgs := []) (Gd := fun LP gs => torporref07_Has_g LP) (hn := []) (h := [(6, false, ⟨[(0, .vs 0 (.int .i64)), (1, .it .i64), (5, .it .i64)], []⟩)]) (()) trivial (by kernel_rfl) (by kernel_rfl)
abbrev fn_torporref09_empty : FuncId := 33
def sg_torporref09_empty : Sig := ⟨⟨[(0, .it .i64)], []⟩, [⟨[(0, .ag [.it .i64, .it .u32, .it .i64, .it .i64, .it .i64, .it .i64])], []⟩]⟩
def torporref09_empty_g (LP : LPT) : Int → Option (Int × Int × Int × Int × Int × Int) := fun x1 =>
  some ((-1), 0, x1, (-1), (-1), (-1))
def torporref09_empty : Int → Option (Int × Int × Int × Int × Int × Int) := torporref09_empty_g LOOPx
theorem torporref09_empty_ok : FnOK Go.Proofs.Try.prog fn_torporref09_empty sg_torporref09_empty torporref09_empty := fn_of (P := Go.Proofs.Try.prog) (f := fn_torporref09_empty) (sg := sg_torporref09_empty) (sgs := []) (Gd := fun LP gs => torporref09_empty_g LP) (hn := []) (h := []) (()) trivial (by kernel_rfl) (by kernel_rfl)
abbrev fn_torporref09_Make : FuncId := 24
def sg_torporref09_Make : Sig := ⟨⟨[(0, .it .i64)], []⟩, [⟨[(0, .ag [.gr 0, .it .i64, .it .i64]), (1, .it .i64)], [.gs true (.pr (.int .i64) (.pr (.int .u32) (.pr (.int .i64) (.pr (.int .i64) (.pr (.int .i64) (.int .i64))))))]⟩]⟩
def torporref09_Make_g (LP : LPT) (torporref09_empty : Int → Option (Int × Int × Int × Int × Int × Int)) : Int → Option (((Int × Int) × Int) × List (Int × Int × Int × Int × Int × Int)) := fun x1 =>
  bif !(decide (x1 < (0 : Int))) then 
      (bif decide ((64 : Int) < x1) then some (((0, 0), 1), [])
      else 
        (LP ((Int × Int) × (Int × Int) × (Int × Int) × List (Int × Int × Int × Int × Int × Int)) (((Int × Int) × Int) × List (Int × Int × Int × Int × Int × Int)) (fun ((x2, x3), (x4, x5), (x6, x7), x8) =>
          bif decide (x3 < x2) then 
              (Option.bind (α := ((Int × Int × Int) × (Int × Int) × (Int × Int) × List (Int × Int × Int × Int × Int × Int)) ⊕ (((Int × Int) × (Int × Int) × (Int × Int) × List (Int × Int × Int × Int × Int × Int)) ⊕ (((Int × Int) × Int) × List (Int × Int × Int × Int × Int × Int)))) (β := ((Int × Int) × (Int × Int) × (Int × Int) × List (Int × Int × Int × Int × Int × Int)) ⊕ (((Int × Int) × Int) × List (Int × Int × Int × Int × Int × Int))) (bif decide ((IntKind.i64.wrap (x3 + (1 : Int))) = x2) then some (.inl ((x2, x3, (-1)), (x4, x5), (x6, x7), x8))
                else some (.inl ((x2, x3, IntKind.i64.wrap (x3 + (1 : Int))), (x4, x5), (x6, x7), x8)))
                fun z => match z with
                | .inl ((x9, x10, x11), (x12, x13), (x14, x15), x16) => (torporref09_empty x11).bind fun (x17, x18, x19, x20, x21, x22) => 
                    (bif decide ((x16.length + ([(x17, x18, x19, x20, x21, x22)]).length) * 48 ≤ 140737488355328) then some (.inl ((x9, IntKind.i64.wrap (x10 + (1 : Int))), (x12, x13), (x14, 0), x16 ++ ([(x17, x18, x19, x20, x21, x22)])))
                      else none)
                | .inr o => some o)
          else some (.inr (((x6, x7), 0), x8)))
          ((x1, 0), (0, 0), ((-1), (-1)), [])))
  else some (((0, 0), 1), [])
def torporref09_Make : Int → Option (((Int × Int) × Int) × List (Int × Int × Int × Int × Int × Int)) := torporref09_Make_g LOOPx torporref09_empty
theorem torporref09_Make_ok : FnOK Go.Proofs.Try.prog fn_torporref09_Make sg_torporref09_Make torporref09_Make := fn_of (P := Go.Proofs.Try.prog) (f := fn_torporref09_Make) (sg := sg_torporref09_Make) (sgs := [(fn_torporref09_empty, sg_torporref09_empty)]) (Gd := fun LP gs => torporref09_Make_g LP gs.1) (hn := []) (h := [(16, false, ⟨[(0, .it .i64), (2, .pt 0 0), (4, .pt 1 0), (5, .it .i64)], [.va [.sn, .it .i64, .it .i64], .va [.gr 2, .it .i64, .it .i64], .gs true (.pr (.int .i64) (.pr (.int .u32) (.pr (.int .i64) (.pr (.int .i64) (.pr (.int .i64) (.int .i64))))))]⟩), (28, true, ⟨[(0, .it .i64), (2, .pt 0 0), (4, .pt 1 0), (5, .it .i64), (6, .it .i64)], [.va [.sn, .it .i64, .it .i64], .va [.gr 2, .it .i64, .it .i64], .gs true (.pr (.int .i64) (.pr (.int .u32) (.pr (.int .i64) (.pr (.int .i64) (.pr (.int .i64) (.int .i64))))))]⟩)]) (torporref09_empty, ()) ⟨torporref09_empty_ok, trivial⟩ (by kernel_rfl) (by kernel_rfl)
abbrev fn_torporref09_free : FuncId := 37
def sg_torporref09_free : Sig := ⟨⟨[(0, .ag [.vs 0 (.pr (.int .i64) (.pr (.int .u32) (.pr (.int .i64) (.pr (.int .i64) (.pr (.int .i64) (.int .i64)))))), .it .i64, .it .i64])], []⟩, [⟨[(0, .gr 0), (1, .bo)], [.gs true (.int .i64)]⟩]⟩
def torporref09_free_g (LP : LPT) (torporref07_Has : ((List Int) × Int) → Option (Bool)) (torporref09_empty : Int → Option (Int × Int × Int × Int × Int × Int)) : ((List (Int × Int × Int × Int × Int × Int)) × Int × Int) → Option (Bool × List Int) := fun (x1, x2, x3) =>
  LP (Int × ((List (Int × Int × Int × Int × Int × Int)) × Int × Int) × List Int) (Bool × List Int) (fun (x4, (x5, x6, x7), x8) =>
    bif !decide (x4 = (-1)) then 
        (bif !(decide (x4 < (0 : Int))) then 
            (bif !(decide ((x5.length : Int) ≤ x4)) then 
                ((torporref07_Has (x8, x4)).bind fun x9 => 
                  (bif !x9 then 
                      (bif decide (0 ≤ x4) && decide (x4 < (x5.length : Int)) then 
                        (bif decide (0 ≤ x4) && decide (x4 < (x5.length : Int)) then 
                          ((torporref09_empty ((((Ty.at (.pr (.int .i64) (.pr (.int .u32) (.pr (.int .i64) (.pr (.int .i64) (.pr (.int .i64) (.int .i64)))))) x5 x4.toNat).2).2).1)).bind fun (x10, x11, x12, x13, x14, x15) => 
                            (bif !((((Ty.at (.pr (.int .i64) (.pr (.int .u32) (.pr (.int .i64) (.pr (.int .i64) (.pr (.int .i64) (.int .i64)))))) x5 x4.toNat).1) == x10) && (((((Ty.at (.pr (.int .i64) (.pr (.int .u32) (.pr (.int .i64) (.pr (.int .i64) (.pr (.int .i64) (.int .i64)))))) x5 x4.toNat).2).1) == x11) && ((((((Ty.at (.pr (.int .i64) (.pr (.int .u32) (.pr (.int .i64) (.pr (.int .i64) (.pr (.int .i64) (.int .i64)))))) x5 x4.toNat).2).2).1) == x12) && (((((((Ty.at (.pr (.int .i64) (.pr (.int .u32) (.pr (.int .i64) (.pr (.int .i64) (.pr (.int .i64) (.int .i64)))))) x5 x4.toNat).2).2).2).1) == x13) && ((((((((Ty.at (.pr (.int .i64) (.pr (.int .u32) (.pr (.int .i64) (.pr (.int .i64) (.pr (.int .i64) (.int .i64)))))) x5 x4.toNat).2).2).2).2).1) == x14) && ((((((((Ty.at (.pr (.int .i64) (.pr (.int .u32) (.pr (.int .i64) (.pr (.int .i64) (.pr (.int .i64) (.int .i64)))))) x5 x4.toNat).2).2).2).2).2) == x15) && true)))))) then some (.inr (false, []))
                            else 
                              (bif decide ((x8.length + ([x4]).length) * 8 ≤ 140737488355328) then 
                                (bif decide (0 ≤ x4) && decide (x4 < (x5.length : Int)) then some (.inl ((((Ty.at (.pr (.int .i64) (.pr (.int .u32) (.pr (.int .i64) (.pr (.int .i64) (.pr (.int .i64) (.int .i64)))))) x5 x4.toNat).2).2).1, (x5, x6, x7), x8 ++ ([x4])))
                                  else none)
                                else none)))
                          else none)
                        else none)
                  else some (.inr (false, []))))
            else some (.inr (false, [])))
        else some (.inr (false, [])))
    else some (.inr (true, x8)))
    (x3, (x1, x2, x3), [])
def torporref09_free : ((List (Int × Int × Int × Int × Int × Int)) × Int × Int) → Option (Bool × List Int) := torporref09_free_g LOOPx torporref07_Has torporref09_empty
theorem torporref09_free_ok : FnOK Go.Proofs.Try.prog fn_torporref09_free sg_torporref09_free torporref09_free := fn_of (P := Go.Proofs.Try.prog) (f := fn_torporref09_free) (sg := sg_torporref09_free) (sgs := [(fn_torporref07_Has, sg_torporref07_Has), (fn_torporref09_empty, sg_torporref09_empty)]) (Gd := fun LP gs => torporref09_free_g LP gs.1 gs.2.1) (hn := []) (h := [(8, false, ⟨[(1, .pt 0 0), (4, .gr 1), (5, .it .i64)], [.va [.vs 0 (.pr (.int .i64) (.pr (.int .u32) (.pr (.int .i64) (.pr (.int .i64) (.pr (.int .i64) (.int .i64)))))), .it .i64, .it .i64], .gs true (.int .i64)]⟩)]) (torporref07_Has, torporref09_empty, ()) ⟨torporref07_Has_ok, torporref09_empty_ok, trivial⟩ (by kernel_rfl) (by kernel_rfl)
abbrev fn_torporref09_Copy : FuncId := 8
def sg_torporref09_Copy : Sig := ⟨⟨[(0, .ag [.vs 0 (.pr (.int .i64) (.pr (.int .u32) (.pr (.int .i64) (.pr (.int .i64) (.pr (.int .i64) (.int .i64)))))), .it .i64, .it .i64])], []⟩, [⟨[(0, .ag [.gr 0, .it .i64, .it .i64])], [.gs true (.pr (.int .i64) (.pr (.int .u32) (.pr (.int .i64) (.pr (.int .i64) (.pr (.int .i64) (.int .i64))))))]⟩]⟩
def torporref09_Copy_g (LP : LPT) : ((List (Int × Int × Int × Int × Int × Int)) × Int × Int) → Option ((Int × Int) × List (Int × Int × Int × Int × Int × Int)) := fun (x1, x2, x3) =>
  bif decide ((([] : List (Int × Int × Int × Int × Int × Int)).length + x1.length) * 48 ≤ 140737488355328) then some ((x2, x3), ([] : List (Int × Int × Int × Int × Int × Int)) ++ x1)
    else none
def torporref09_Copy : ((List (Int × Int × Int × Int × Int × Int)) × Int × Int) → Option ((Int × Int) × List (Int × Int × Int × Int × Int × Int)) := torporref09_Copy_g LOOPx
theorem torporref09_Copy_ok : FnOK Go.Proofs.Try.prog fn_torporref09_Copy sg_torporref09_Copy torporref09_Copy := fn_of (P := Go.Proofs.Try.prog) (f := fn_torporref09_Copy) (sg := sg_torporref09_Copy) (sgs := []) (Gd := fun LP gs => torporref09_Copy_g LP) (hn := []) (h := []) (()) trivial (by kernel_rfl) (by kernel_rfl)
abbrev fn_torporref09_sorted : FuncId := 38
def sg_torporref09_sorted : Sig := ⟨⟨[(0, .ag [.vs 0 (.pr (.int .i64) (.pr (.int .u32) (.pr (.int .i64) (.pr (.int .i64) (.pr (.int .i64) (.int .i64)))))), .it .i64, .it .i64])], []⟩, [⟨[(0, .gr 0)], [.gs true (.int .i64)]⟩]⟩
def torporref09_sorted_g (LP : LPT) (torporref07_Has : ((List Int) × Int) → Option (Bool)) (torporref09_free : ((List (Int × Int × Int × Int × Int × Int)) × Int × Int) → Option (Bool × List Int)) : ((List (Int × Int × Int × Int × Int × Int)) × Int × Int) → Option (List Int) := fun (x1, x2, x3) =>
  (torporref09_free (x1, x2, x3)).bind fun (x4, x5) => 
    (LP (Int × ((List (Int × Int × Int × Int × Int × Int)) × Int × Int) × (List Int) × List Int) (List Int) (fun (x6, (x7, x8, x9), x10, x11) =>
      bif decide (x6 < (x7.length : Int)) then 
          ((torporref07_Has (x10, x6)).bind fun x12 => 
            (bif x12 then some (.inl (IntKind.i64.wrap (x6 + (1 : Int)), (x7, x8, x9), x10, x11))
            else 
              (Option.bind (α := ((Int × Int) × ((List (Int × Int × Int × Int × Int × Int)) × Int × Int) × (List Int) × List Int) ⊕ ((Int × ((List (Int × Int × Int × Int × Int × Int)) × Int × Int) × (List Int) × List Int) ⊕ (List Int))) (β := (Int × ((List (Int × Int × Int × Int × Int × Int)) × Int × Int) × (List Int) × List Int) ⊕ (List Int)) (LP ((Int × Int) × ((List (Int × Int × Int × Int × Int × Int)) × Int × Int) × (List Int) × List Int) (((Int × Int) × ((List (Int × Int × Int × Int × Int × Int)) × Int × Int) × (List Int) × List Int) ⊕ ((Int × ((List (Int × Int × Int × Int × Int × Int)) × Int × Int) × (List Int) × List Int) ⊕ (List Int))) (fun ((x13, x14), (x15, x16, x17), x18, x19) =>
                  bif decide (x14 < (x19.length : Int)) then 
                      (bif decide (0 ≤ x14) && decide (x14 < (x19.length : Int)) then 
                        (bif decide (x14.toNat < x19.length) then 
                          (bif decide (0 ≤ Ty.at (.int .i64) x19 x14.toNat) && decide (Ty.at (.int .i64) x19 x14.toNat < (x15.length : Int)) then 
                            (bif decide (0 ≤ x13) && decide (x13 < (x15.length : Int)) then 
                              (bif decide (((Ty.at (.pr (.int .i64) (.pr (.int .u32) (.pr (.int .i64) (.pr (.int .i64) (.pr (.int .i64) (.int .i64)))))) x15 ((Ty.at (.int .i64) x19 x14.toNat).toNat)).1) < ((Ty.at (.pr (.int .i64) (.pr (.int .u32) (.pr (.int .i64) (.pr (.int .i64) (.pr (.int .i64) (.int .i64)))))) x15 x13.toNat).1)) then some (.inl ((x13, IntKind.i64.wrap (x14 + (1 : Int))), (x15, x16, x17), x18, x19))
                              else some (.inr (.inl ((x13, x14), (x15, x16, x17), x18, x19))))
                              else none)
                            else none)
                          else none)
                        else none)
                  else some (.inr (.inl ((x13, x14), (x15, x16, x17), x18, x19))))
                  ((x6, 0), (x7, x8, x9), x10, x11))
                fun z => match z with
                | .inl ((x20, x21), (x22, x23, x24), x25, x26) => bif (decide (0 ≤ x21) && decide (x21 ≤ (x26.length : Int))) && true then 
                    (bif decide (0 ≤ x21) && decide (x21 ≤ (x26.length : Int)) then 
                      (bif decide (0 + (x21.toNat - 0) ≤ x26.length) && decide ((([] : List Int).length + ((x26.drop 0).take (x21.toNat - 0)).length) * 8 ≤ 140737488355328) then 
                        (bif decide (((([] : List Int) ++ ((x26.drop 0).take (x21.toNat - 0))).length + ([x20]).length) * 8 ≤ 140737488355328) then 
                          (bif decide (x21.toNat + (x26.length - x21.toNat) ≤ x26.length) && decide ((((([] : List Int) ++ ((x26.drop 0).take (x21.toNat - 0))) ++ ([x20])).length + ((x26.drop x21.toNat).take (x26.length - x21.toNat)).length) * 8 ≤ 140737488355328) then some (.inl (IntKind.i64.wrap (x20 + (1 : Int)), (x22, x23, x24), x25, ((([] : List Int) ++ ((x26.drop 0).take (x21.toNat - 0))) ++ ([x20])) ++ ((x26.drop x21.toNat).take (x26.length - x21.toNat))))
                            else none)
                          else none)
                        else none)
                      else none)
                    else none
                | .inr o => some o)))
      else some (.inr x11))
      (0, (x1, x2, x3), x5, []))
def torporref09_sorted : ((List (Int × Int × Int × Int × Int × Int)) × Int × Int) → Option (List Int) := torporref09_sorted_g LOOPx torporref07_Has torporref09_free
theorem torporref09_sorted_ok : FnOK Go.Proofs.Try.prog fn_torporref09_sorted sg_torporref09_sorted torporref09_sorted := fn_of (P := Go.Proofs.Try.prog) (f := fn_torporref09_sorted) (sg := sg_torporref09_sorted) (sgs := [(fn_torporref07_Has, sg_torporref07_Has), (fn_torporref09_free, sg_torporref09_free)]) (Gd := fun LP gs => torporref09_sorted_g LP gs.1 gs.2.1) (hn := [(47, .int .i64), (51, .int .i64), (54, .int .i64), (58, .int .i64)]) (h := [(10, false, ⟨[(1, .pt 0 0), (3, .gr 1), (5, .gr 2), (6, .it .i64)], [.va [.vs 0 (.pr (.int .i64) (.pr (.int .u32) (.pr (.int .i64) (.pr (.int .i64) (.pr (.int .i64) (.int .i64)))))), .it .i64, .it .i64], .gs true (.int .i64), .gs true (.int .i64)]⟩), (28, true, ⟨[(1, .pt 0 0), (3, .gr 1), (5, .gr 2), (6, .it .i64), (7, .it .i64)], [.va [.vs 0 (.pr (.int .i64) (.pr (.int .u32) (.pr (.int .i64) (.pr (.int .i64) (.pr (.int .i64) (.int .i64)))))), .it .i64, .it .i64], .gs true (.int .i64), .gs true (.int .i64)]⟩), (29, false, ⟨[(1, .pt 0 0), (3, .gr 1), (5, .gr 2), (6, .it .i64), (7, .it .i64)], [.va [.vs 0 (.pr (.int .i64) (.pr (.int .u32) (.pr (.int .i64) (.pr (.int .i64) (.pr (.int .i64) (.int .i64)))))), .it .i64, .it .i64], .gs true (.int .i64), .gs true (.int .i64)]⟩)]) (torporref07_Has, torporref09_free, ()) ⟨torporref07_Has_ok, torporref09_free_ok, trivial⟩ (by kernel_rfl) (by kernel_rfl)
abbrev fn_torporref09_laid : FuncId := 44
def sg_torporref09_laid : Sig := ⟨⟨[(0, .gr 0), (1, .vs 0 (.int .i64))], [.gs true (.pr (.int .i64) (.pr (.int .u32) (.pr (.int .i64) (.pr (.int .i64) (.pr (.int .i64) (.int .i64))))))]⟩, [⟨[(0, .it .i64)], [.gs true (.pr (.int .i64) (.pr (.int .u32) (.pr (.int .i64) (.pr (.int .i64) (.pr (.int .i64) (.int .i64))))))]⟩]⟩
def torporref09_laid_g (LP : LPT) (self_torporref09_laid : ((List Int) × List (Int × Int × Int × Int × Int × Int)) → Option (Int × List (Int × Int × Int × Int × Int × Int))) : ((List Int) × List (Int × Int × Int × Int × Int × Int)) → Option (Int × List (Int × Int × Int × Int × Int × Int)) := fun (x1, x2) =>
  bif decide ((x1.length : Int) = (0 : Int)) then some ((-1), x2)
  else 
    (Option.bind (α := (((List Int) × Int) × List (Int × Int × Int × Int × Int × Int)) ⊕ (Int × List (Int × Int × Int × Int × Int × Int))) (β := Int × List (Int × Int × Int × Int × Int × Int)) (LP (((List Int) × Int × Int) × List (Int × Int × Int × Int × Int × Int)) ((((List Int) × Int) × List (Int × Int × Int × Int × Int × Int)) ⊕ (Int × List (Int × Int × Int × Int × Int × Int))) (fun ((x3, x4, x5), x6) =>
        bif decide (x5 < (x3.length : Int)) then 
            (bif decide (0 ≤ x5) && decide (x5 < (x3.length : Int)) then 
              (bif decide (0 ≤ Ty.at (.int .i64) x3 x5.toNat) && decide (Ty.at (.int .i64) x3 x5.toNat < (x6.length : Int)) then 
                (bif decide ((Ty.at (.int .i64) x3 x5.toNat).toNat < x6.length) then 
                  (bif decide (0 ≤ x4) && decide (x4 < (x3.length : Int)) then 
                    (bif decide (0 ≤ Ty.at (.int .i64) x3 x4.toNat) && decide (Ty.at (.int .i64) x3 x4.toNat < (x6.length : Int)) then 
                      (bif decide ((Ty.at (.int .i64) x3 x4.toNat).toNat < x6.length) then 
                        (bif decide ((((Ty.at (.pr (.int .i64) (.pr (.int .u32) (.pr (.int .i64) (.pr (.int .i64) (.pr (.int .i64) (.int .i64)))))) x6 ((Ty.at (.int .i64) x3 x5.toNat).toNat)).2).1) < (((Ty.at (.pr (.int .i64) (.pr (.int .u32) (.pr (.int .i64) (.pr (.int .i64) (.pr (.int .i64) (.int .i64)))))) x6 ((Ty.at (.int .i64) x3 x4.toNat).toNat)).2).1)) then some (.inl ((x3, x5, IntKind.i64.wrap (x5 + (1 : Int))), x6))
                        else some (.inl ((x3, x4, IntKind.i64.wrap (x5 + (1 : Int))), x6)))
                        else none)
                      else none)
                    else none)
                  else none)
                else none)
              else none)
        else some (.inr (.inl ((x3, x4), x6))))
        ((x1, 0, 1), x2))
      fun z => match z with
      | .inl ((x7, x8), x9) => bif decide (0 ≤ x8) && decide (x8 < (x7.length : Int)) then 
          (bif (decide (0 ≤ x8) && decide (x8 ≤ (x7.length : Int))) && true then 
            ((self_torporref09_laid ((x7.take x8.toNat).drop 0, x9)).bind fun (x10, x11) => 
              (bif decide (0 ≤ Ty.at (.int .i64) x7 x8.toNat) && decide (Ty.at (.int .i64) x7 x8.toNat < (x11.length : Int)) then 
                (bif decide ((Ty.at (.int .i64) x7 x8.toNat).toNat < x11.length) then 
                  (bif decide (0 ≤ x8) && decide (x8 < (x7.length : Int)) then 
                    (bif decide (0 ≤ IntKind.i64.wrap (x8 + (1 : Int))) && decide (IntKind.i64.wrap (x8 + (1 : Int)) ≤ (x7.length : Int)) then 
                      ((self_torporref09_laid ((x7.take x7.length).drop ((IntKind.i64.wrap (x8 + (1 : Int))).toNat), x11.set ((Ty.at (.int .i64) x7 x8.toNat).toNat) ((Ty.at (.pr (.int .i64) (.pr (.int .u32) (.pr (.int .i64) (.pr (.int .i64) (.pr (.int .i64) (.int .i64)))))) x11 ((Ty.at (.int .i64) x7 x8.toNat).toNat)).1, ((Ty.at (.pr (.int .i64) (.pr (.int .u32) (.pr (.int .i64) (.pr (.int .i64) (.pr (.int .i64) (.int .i64)))))) x11 ((Ty.at (.int .i64) x7 x8.toNat).toNat)).2).1, x10, ((((Ty.at (.pr (.int .i64) (.pr (.int .u32) (.pr (.int .i64) (.pr (.int .i64) (.pr (.int .i64) (.int .i64)))))) x11 ((Ty.at (.int .i64) x7 x8.toNat).toNat)).2).2).2).1, (((((Ty.at (.pr (.int .i64) (.pr (.int .u32) (.pr (.int .i64) (.pr (.int .i64) (.pr (.int .i64) (.int .i64)))))) x11 ((Ty.at (.int .i64) x7 x8.toNat).toNat)).2).2).2).2).1, (((((Ty.at (.pr (.int .i64) (.pr (.int .u32) (.pr (.int .i64) (.pr (.int .i64) (.pr (.int .i64) (.int .i64)))))) x11 ((Ty.at (.int .i64) x7 x8.toNat).toNat)).2).2).2).2).2))).bind fun (x12, x13) => 
                        (bif decide (0 ≤ Ty.at (.int .i64) x7 x8.toNat) && decide (Ty.at (.int .i64) x7 x8.toNat < (x13.length : Int)) then 
                          (bif decide ((Ty.at (.int .i64) x7 x8.toNat).toNat < x13.length) then 
                            (bif decide (0 ≤ x8) && decide (x8 < (x7.length : Int)) then some (Ty.at (.int .i64) x7 x8.toNat, x13.set ((Ty.at (.int .i64) x7 x8.toNat).toNat) ((Ty.at (.pr (.int .i64) (.pr (.int .u32) (.pr (.int .i64) (.pr (.int .i64) (.pr (.int .i64) (.int .i64)))))) x13 ((Ty.at (.int .i64) x7 x8.toNat).toNat)).1, ((Ty.at (.pr (.int .i64) (.pr (.int .u32) (.pr (.int .i64) (.pr (.int .i64) (.pr (.int .i64) (.int .i64)))))) x13 ((Ty.at (.int .i64) x7 x8.toNat).toNat)).2).1, (((Ty.at (.pr (.int .i64) (.pr (.int .u32) (.pr (.int .i64) (.pr (.int .i64) (.pr (.int .i64) (.int .i64)))))) x13 ((Ty.at (.int .i64) x7 x8.toNat).toNat)).2).2).1, x12, (((((Ty.at (.pr (.int .i64) (.pr (.int .u32) (.pr (.int .i64) (.pr (.int .i64) (.pr (.int .i64) (.int .i64)))))) x13 ((Ty.at (.int .i64) x7 x8.toNat).toNat)).2).2).2).2).1, (((((Ty.at (.pr (.int .i64) (.pr (.int .u32) (.pr (.int .i64) (.pr (.int .i64) (.pr (.int .i64) (.int .i64)))))) x13 ((Ty.at (.int .i64) x7 x8.toNat).toNat)).2).2).2).2).2))
                              else none)
                            else none)
                          else none))
                      else none)
                    else none)
                  else none)
                else none))
            else none)
          else none
      | .inr o => some o)
def torporref09_laid : ((List Int) × List (Int × Int × Int × Int × Int × Int)) → Option (Int × List (Int × Int × Int × Int × Int × Int)) := FIX fun g => torporref09_laid_g LOOPx g
theorem torporref09_laid_ok : FnOK Go.Proofs.Try.prog fn_torporref09_laid sg_torporref09_laid torporref09_laid := fn_rec (by kernel_rfl) fun g hg => fn_of (P := Go.Proofs.Try.prog) (f := fn_torporref09_laid) (sg := sg_torporref09_laid) (sgs := [(fn_torporref09_laid, sg_torporref09_laid)]) (Gd := fun LP gs => torporref09_laid_g LP gs.1) (hn := []) (h := [(13, true, ⟨[(0, .gr 0), (1, .vs 0 (.int .i64)), (5, .it .i64)], [.gs true (.pr (.int .i64) (.pr (.int .u32) (.pr (.int .i64) (.pr (.int .i64) (.pr (.int .i64) (.int .i64))))))]⟩), (16, false, ⟨[(0, .gr 0), (1, .vs 0 (.int .i64)), (5, .it .i64), (6, .it .i64)], [.gs true (.pr (.int .i64) (.pr (.int .u32) (.pr (.int .i64) (.pr (.int .i64) (.pr (.int .i64) (.int .i64))))))]⟩)]) (g, ()) ⟨hg, trivial⟩ (by kernel_rfl) (by kernel_rfl)
abbrev fn_torporref09_Laid : FuncId := 30
def sg_torporref09_Laid : Sig := ⟨⟨[(0, .ag [.vs 0 (.pr (.int .i64) (.pr (.int .u32) (.pr (.int .i64) (.pr (.int .i64) (.pr (.int .i64) (.int .i64)))))), .it .i64, .it .i64])], []⟩, [⟨[(0, .ag [.gr 0, .it .i64, .it .i64])], [.gs true (.pr (.int .i64) (.pr (.int .u32) (.pr (.int .i64) (.pr (.int .i64) (.pr (.int .i64) (.int .i64))))))]⟩]⟩
def torporref09_Laid_g (LP : LPT) (torporref09_Copy : ((List (Int × Int × Int × Int × Int × Int)) × Int × Int) → Option ((Int × Int) × List (Int × Int × Int × Int × Int × Int))) (torporref09_sorted : ((List (Int × Int × Int × Int × Int × Int)) × Int × Int) → Option (List Int)) (torporref09_laid : ((List Int) × List (Int × Int × Int × Int × Int × Int)) → Option (Int × List (Int × Int × Int × Int × Int × Int))) : ((List (Int × Int × Int × Int × Int × Int)) × Int × Int) → Option ((Int × Int) × List (Int × Int × Int × Int × Int × Int)) := fun (x1, x2, x3) =>
  (torporref09_Copy (x1, x2, x3)).bind fun ((x4, x5), x6) => 
    ((torporref09_sorted (x1, x2, x3)).bind fun x7 => 
      ((torporref09_laid (x7, x6)).bind fun (x8, x9) => some ((x8, x5), x9)))
def torporref09_Laid : ((List (Int × Int × Int × Int × Int × Int)) × Int × Int) → Option ((Int × Int) × List (Int × Int × Int × Int × Int × Int)) := torporref09_Laid_g LOOPx torporref09_Copy torporref09_sorted torporref09_laid
theorem torporref09_Laid_ok : FnOK Go.Proofs.Try.prog fn_torporref09_Laid sg_torporref09_Laid torporref09_Laid := fn_of (P := Go.Proofs.Try.prog) (f := fn_torporref09_Laid) (sg := sg_torporref09_Laid) (sgs := [(fn_torporref09_Copy, sg_torporref09_Copy), (fn_torporref09_sorted, sg_torporref09_sorted), (fn_torporref09_laid, sg_torporref09_laid)]) (Gd := fun LP gs => torporref09_Laid_g LP gs.1 gs.2.1 gs.2.2.1) (hn := []) (h := []) (torporref09_Copy, torporref09_sorted, torporref09_laid, ()) ⟨torporref09_Copy_ok, torporref09_sorted_ok, torporref09_laid_ok, trivial⟩ (by kernel_rfl) (by kernel_rfl)
abbrev fn_torporref09_Same : FuncId := 15
def sg_torporref09_Same : Sig := ⟨⟨[(0, .ag [.vs 0 (.pr (.int .i64) (.pr (.int .u32) (.pr (.int .i64) (.pr (.int .i64) (.pr (.int .i64) (.int .i64)))))), .it .i64, .it .i64]), (1, .ag [.vs 0 (.pr (.int .i64) (.pr (.int .u32) (.pr (.int .i64) (.pr (.int .i64) (.pr (.int .i64) (.int .i64)))))), .it .i64, .it .i64])], []⟩, [⟨[(0, .bo)], []⟩]⟩
def torporref09_Same_g (LP : LPT) : (((List (Int × Int × Int × Int × Int × Int)) × Int × Int) × (List (Int × Int × Int × Int × Int × Int)) × Int × Int) → Option (Bool) := fun ((x1, x2, x3), x4, x5, x6) =>
  bif !(!decide (x2 = x5)) then 
      (bif !(!decide (x3 = x6)) then 
          (bif !decide ((x1.length : Int) = (x4.length : Int)) then some false
          else 
            (LP (Int × ((List (Int × Int × Int × Int × Int × Int)) × Int × Int) × (List (Int × Int × Int × Int × Int × Int)) × Int × Int) (Bool) (fun (x7, (x8, x9, x10), x11, x12, x13) =>
              bif decide (x7 < (x8.length : Int)) then 
                  (bif decide (0 ≤ x7) && decide (x7 < (x8.length : Int)) then 
                    (bif decide (0 ≤ x7) && decide (x7 < (x11.length : Int)) then 
                      (bif !((((Ty.at (.pr (.int .i64) (.pr (.int .u32) (.pr (.int .i64) (.pr (.int .i64) (.pr (.int .i64) (.int .i64)))))) x8 x7.toNat).1) == ((Ty.at (.pr (.int .i64) (.pr (.int .u32) (.pr (.int .i64) (.pr (.int .i64) (.pr (.int .i64) (.int .i64)))))) x11 x7.toNat).1)) && (((((Ty.at (.pr (.int .i64) (.pr (.int .u32) (.pr (.int .i64) (.pr (.int .i64) (.pr (.int .i64) (.int .i64)))))) x8 x7.toNat).2).1) == (((Ty.at (.pr (.int .i64) (.pr (.int .u32) (.pr (.int .i64) (.pr (.int .i64) (.pr (.int .i64) (.int .i64)))))) x11 x7.toNat).2).1)) && ((((((Ty.at (.pr (.int .i64) (.pr (.int .u32) (.pr (.int .i64) (.pr (.int .i64) (.pr (.int .i64) (.int .i64)))))) x8 x7.toNat).2).2).1) == ((((Ty.at (.pr (.int .i64) (.pr (.int .u32) (.pr (.int .i64) (.pr (.int .i64) (.pr (.int .i64) (.int .i64)))))) x11 x7.toNat).2).2).1)) && (((((((Ty.at (.pr (.int .i64) (.pr (.int .u32) (.pr (.int .i64) (.pr (.int .i64) (.pr (.int .i64) (.int .i64)))))) x8 x7.toNat).2).2).2).1) == (((((Ty.at (.pr (.int .i64) (.pr (.int .u32) (.pr (.int .i64) (.pr (.int .i64) (.pr (.int .i64) (.int .i64)))))) x11 x7.toNat).2).2).2).1)) && ((((((((Ty.at (.pr (.int .i64) (.pr (.int .u32) (.pr (.int .i64) (.pr (.int .i64) (.pr (.int .i64) (.int .i64)))))) x8 x7.toNat).2).2).2).2).1) == ((((((Ty.at (.pr (.int .i64) (.pr (.int .u32) (.pr (.int .i64) (.pr (.int .i64) (.pr (.int .i64) (.int .i64)))))) x11 x7.toNat).2).2).2).2).1)) && ((((((((Ty.at (.pr (.int .i64) (.pr (.int .u32) (.pr (.int .i64) (.pr (.int .i64) (.pr (.int .i64) (.int .i64)))))) x8 x7.toNat).2).2).2).2).2) == ((((((Ty.at (.pr (.int .i64) (.pr (.int .u32) (.pr (.int .i64) (.pr (.int .i64) (.pr (.int .i64) (.int .i64)))))) x11 x7.toNat).2).2).2).2).2)) && true)))))) then some (.inr false)
                      else some (.inl (IntKind.i64.wrap (x7 + (1 : Int)), (x8, x9, x10), x11, x12, x13)))
                      else none)
                    else none)
              else some (.inr true))
              (0, (x1, x2, x3), x4, x5, x6)))
      else some false)
  else some false
def torporref09_Same : (((List (Int × Int × Int × Int × Int × Int)) × Int × Int) × (List (Int × Int × Int × Int × Int × Int)) × Int × Int) → Option (Bool) := torporref09_Same_g LOOPx
theorem torporref09_Same_ok : FnOK Go.Proofs.Try.prog fn_torporref09_Same sg_torporref09_Same torporref09_Same := fn_of (P := Go.Proofs.Try.prog) (f := fn_torporref09_Same) (sg := sg_torporref09_Same) (sgs := []) (Gd := fun LP gs => torporref09_Same_g LP) (hn := []) (h := [(14, false, ⟨[(2, .pt 0 0), (3, .pt 1 0), (5, .it .i64)], [.va [.vs 0 (.pr (.int .i64) (.pr (.int .u32) (.pr (.int .i64) (.pr (.int .i64) (.pr (.int .i64) (.int .i64)))))), .it .i64, .it .i64], .va [.vs 0 (.pr (.int .i64) (.pr (.int .u32) (.pr (.int .i64) (.pr (.int .i64) (.pr (.int .i64) (.int .i64)))))), .it .i64, .it .i64]]⟩)]) (()) trivial (by kernel_rfl) (by kernel_rfl)
abbrev fn_torporref09_Right : FuncId := 17
def sg_torporref09_Right : Sig := ⟨⟨[(0, .ag [.vs 0 (.pr (.int .i64) (.pr (.int .u32) (.pr (.int .i64) (.pr (.int .i64) (.pr (.int .i64) (.int .i64)))))), .it .i64, .it .i64])], []⟩, [⟨[(0, .bo)], []⟩]⟩
def torporref09_Right_g (LP : LPT) (torporref09_free : ((List (Int × Int × Int × Int × Int × Int)) × Int × Int) → Option (Bool × List Int)) (torporref09_sorted : ((List (Int × Int × Int × Int × Int × Int)) × Int × Int) → Option (List Int)) (torporref09_Laid : ((List (Int × Int × Int × Int × Int × Int)) × Int × Int) → Option ((Int × Int) × List (Int × Int × Int × Int × Int × Int))) (torporref09_Same : (((List (Int × Int × Int × Int × Int × Int)) × Int × Int) × (List (Int × Int × Int × Int × Int × Int)) × Int × Int) → Option (Bool)) : ((List (Int × Int × Int × Int × Int × Int)) × Int × Int) → Option (Bool) := fun (x1, x2, x3) =>
  bif decide ((64 : Int) < (x1.length : Int)) then some false
  else 
    ((torporref09_free (x1, x2, x3)).bind fun (x4, x5) => 
      (bif !x4 then some false
      else 
        ((torporref09_sorted (x1, x2, x3)).bind fun x6 => 
          (Option.bind (α := ((List (Int × Int × Int × Int × Int × Int)) × Int × Int) ⊕ Bool) (β := Bool) (LP (Int × ((List (Int × Int × Int × Int × Int × Int)) × Int × Int) × List Int) (((List (Int × Int × Int × Int × Int × Int)) × Int × Int) ⊕ Bool) (fun (x7, (x8, x9, x10), x11) =>
              bif decide (x7 < (x11.length : Int)) then 
                  (bif decide (0 ≤ x7) && decide (x7 < (x11.length : Int)) then 
                    (bif decide (x7.toNat < x11.length) then 
                      (bif decide (0 ≤ Ty.at (.int .i64) x11 x7.toNat) && decide (Ty.at (.int .i64) x11 x7.toNat < (x8.length : Int)) then 
                        (bif !(decide (((Ty.at (.pr (.int .i64) (.pr (.int .u32) (.pr (.int .i64) (.pr (.int .i64) (.pr (.int .i64) (.int .i64)))))) x8 ((Ty.at (.int .i64) x11 x7.toNat).toNat)).1) < (0 : Int))) then 
                            (bif decide ((0 : Int) < x7) then 
                                (bif decide (0 ≤ IntKind.i64.wrap (x7 - (1 : Int))) && decide (IntKind.i64.wrap (x7 - (1 : Int)) < (x11.length : Int)) then 
                                  (bif decide ((IntKind.i64.wrap (x7 - (1 : Int))).toNat < x11.length) then 
                                    (bif decide (0 ≤ Ty.at (.int .i64) x11 ((IntKind.i64.wrap (x7 - (1 : Int))).toNat)) && decide (Ty.at (.int .i64) x11 ((IntKind.i64.wrap (x7 - (1 : Int))).toNat) < (x8.length : Int)) then 
                                      (bif decide (((Ty.at (.pr (.int .i64) (.pr (.int .u32) (.pr (.int .i64) (.pr (.int .i64) (.pr (.int .i64) (.int .i64)))))) x8 ((Ty.at (.int .i64) x11 ((IntKind.i64.wrap (x7 - (1 : Int))).toNat)).toNat)).1) = ((Ty.at (.pr (.int .i64) (.pr (.int .u32) (.pr (.int .i64) (.pr (.int .i64) (.pr (.int .i64) (.int .i64)))))) x8 ((Ty.at (.int .i64) x11 x7.toNat).toNat)).1)) then some (.inr (.inr false))
                                      else some (.inl (IntKind.i64.wrap (x7 + (1 : Int)), (x8, x9, x10), x11)))
                                      else none)
                                    else none)
                                  else none)
                            else some (.inl (IntKind.i64.wrap (x7 + (1 : Int)), (x8, x9, x10), x11)))
                        else some (.inr (.inr false)))
                        else none)
                      else none)
                    else none)
              else some (.inr (.inl (x8, x9, x10))))
              (0, (x1, x2, x3), x6))
            fun z => match z with
            | .inl (x12, x13, x14) => (torporref09_Laid (x12, x13, x14)).bind fun ((x15, x16), x17) => 
                ((torporref09_Same ((x17, x15, x16), x12, x13, x14)).bind fun x18 => some x18)
            | .inr o => some o))))
def torporref09_Right : ((List (Int × Int × Int × Int × Int × Int)) × Int × Int) → Option (Bool) := torporref09_Right_g LOOPx torporref09_free torporref09_sorted torporref09_Laid torporref09_Same
theorem torporref09_Right_ok : FnOK Go.Proofs.Try.prog fn_torporref09_Right sg_torporref09_Right torporref09_Right := fn_of (P := Go.Proofs.Try.prog) (f := fn_torporref09_Right) (sg := sg_torporref09_Right) (sgs := [(fn_torporref09_free, sg_torporref09_free), (fn_torporref09_sorted, sg_torporref09_sorted), (fn_torporref09_Laid, sg_torporref09_Laid), (fn_torporref09_Same, sg_torporref09_Same)]) (Gd := fun LP gs => torporref09_Right_g LP gs.1 gs.2.1 gs.2.2.1 gs.2.2.2.1) (hn := []) (h := [(23, true, ⟨[(1, .pt 0 0)], [.va [.vs 0 (.pr (.int .i64) (.pr (.int .u32) (.pr (.int .i64) (.pr (.int .i64) (.pr (.int .i64) (.int .i64)))))), .it .i64, .it .i64]]⟩), (26, false, ⟨[(1, .pt 0 0), (5, .gr 1), (6, .it .i64)], [.va [.vs 0 (.pr (.int .i64) (.pr (.int .u32) (.pr (.int .i64) (.pr (.int .i64) (.pr (.int .i64) (.int .i64)))))), .it .i64, .it .i64], .gs true (.int .i64)]⟩)]) (torporref09_free, torporref09_sorted, torporref09_Laid, torporref09_Same, ()) ⟨torporref09_free_ok, torporref09_sorted_ok, torporref09_Laid_ok, torporref09_Same_ok, trivial⟩ (by kernel_rfl) (by kernel_rfl)
abbrev fn_torporref09_Keys : FuncId := 20
def sg_torporref09_Keys : Sig := ⟨⟨[(0, .ag [.vs 0 (.pr (.int .i64) (.pr (.int .u32) (.pr (.int .i64) (.pr (.int .i64) (.pr (.int .i64) (.int .i64)))))), .it .i64, .it .i64])], []⟩, [⟨[(0, .gr 0)], [.gs true (.int .i64)]⟩]⟩
def torporref09_Keys_g (LP : LPT) (torporref09_sorted : ((List (Int × Int × Int × Int × Int × Int)) × Int × Int) → Option (List Int)) (torporref09_Right : ((List (Int × Int × Int × Int × Int × Int)) × Int × Int) → Option (Bool)) : ((List (Int × Int × Int × Int × Int × Int)) × Int × Int) → Option (List Int) := fun (x1, x2, x3) =>
  (torporref09_Right (x1, x2, x3)).bind fun x4 => 
    (bif !x4 then some ([])
    else 
      ((torporref09_sorted (x1, x2, x3)).bind fun x5 => 
        (LP (Int × ((List (Int × Int × Int × Int × Int × Int)) × Int × Int) × (List Int) × List Int) (List Int) (fun (x6, (x7, x8, x9), x10, x11) =>
          bif decide (x6 < (x11.length : Int)) then 
              (bif decide (0 ≤ x6) && decide (x6 < (x11.length : Int)) then 
                (bif decide (x6.toNat < x11.length) then 
                  (bif decide (0 ≤ Ty.at (.int .i64) x11 x6.toNat) && decide (Ty.at (.int .i64) x11 x6.toNat < (x7.length : Int)) then 
                    (bif decide ((x10.length + ([(Ty.at (.pr (.int .i64) (.pr (.int .u32) (.pr (.int .i64) (.pr (.int .i64) (.pr (.int .i64) (.int .i64)))))) x7 ((Ty.at (.int .i64) x11 x6.toNat).toNat)).1]).length) * 8 ≤ 140737488355328) then some (.inl (IntKind.i64.wrap (x6 + (1 : Int)), (x7, x8, x9), x10 ++ ([(Ty.at (.pr (.int .i64) (.pr (.int .u32) (.pr (.int .i64) (.pr (.int .i64) (.pr (.int .i64) (.int .i64)))))) x7 ((Ty.at (.int .i64) x11 x6.toNat).toNat)).1]), x11))
                      else none)
                    else none)
                  else none)
                else none)
          else some (.inr x10))
          (0, (x1, x2, x3), [], x5))))
def torporref09_Keys : ((List (Int × Int × Int × Int × Int × Int)) × Int × Int) → Option (List Int) := torporref09_Keys_g LOOPx torporref09_sorted torporref09_Right
theorem torporref09_Keys_ok : FnOK Go.Proofs.Try.prog fn_torporref09_Keys sg_torporref09_Keys torporref09_Keys := fn_of (P := Go.Proofs.Try.prog) (f := fn_torporref09_Keys) (sg := sg_torporref09_Keys) (sgs := [(fn_torporref09_sorted, sg_torporref09_sorted), (fn_torporref09_Right, sg_torporref09_Right)]) (Gd := fun LP gs => torporref09_Keys_g LP gs.1 gs.2.1) (hn := []) (h := [(18, false, ⟨[(1, .pt 0 0), (3, .gr 1), (4, .gr 2), (5, .it .i64)], [.va [.vs 0 (.pr (.int .i64) (.pr (.int .u32) (.pr (.int .i64) (.pr (.int .i64) (.pr (.int .i64) (.int .i64)))))), .it .i64, .it .i64], .gs true (.int .i64), .gs true (.int .i64)]⟩)]) (torporref09_sorted, torporref09_Right, ()) ⟨torporref09_sorted_ok, torporref09_Right_ok, trivial⟩ (by kernel_rfl) (by kernel_rfl)
abbrev fn_torporref09_Place : FuncId := 29
def sg_torporref09_Place : Sig := ⟨⟨[(0, .ag [.vs 0 (.pr (.int .i64) (.pr (.int .u32) (.pr (.int .i64) (.pr (.int .i64) (.pr (.int .i64) (.int .i64)))))), .it .i64, .it .i64]), (1, .it .i64)], []⟩, [⟨[(0, .it .i64)], []⟩]⟩
def torporref09_Place_g (LP : LPT) : (((List (Int × Int × Int × Int × Int × Int)) × Int × Int) × Int) → Option (Int) := fun ((x1, x2, x3), x4) =>
  LP ((Int × Int) × (List (Int × Int × Int × Int × Int × Int)) × Int × Int) (Int) (fun ((x5, x6), x7, x8, x9) =>
    bif decide (x6 < (x7.length : Int)) then 
        (bif decide (0 ≤ x6) && decide (x6 < (x7.length : Int)) then 
          (bif decide (((Ty.at (.pr (.int .i64) (.pr (.int .u32) (.pr (.int .i64) (.pr (.int .i64) (.pr (.int .i64) (.int .i64)))))) x7 x6.toNat).1) = x5) then 
              (bif decide ((0 : Int) ≤ x5) then some (.inr x6)
              else some (.inl ((x5, IntKind.i64.wrap (x6 + (1 : Int))), x7, x8, x9)))
          else some (.inl ((x5, IntKind.i64.wrap (x6 + (1 : Int))), x7, x8, x9)))
          else none)
    else some (.inr (-1)))
    ((x4, 0), x1, x2, x3)
def torporref09_Place : (((List (Int × Int × Int × Int × Int × Int)) × Int × Int) × Int) → Option (Int) := torporref09_Place_g LOOPx
theorem torporref09_Place_ok : FnOK Go.Proofs.Try.prog fn_torporref09_Place sg_torporref09_Place torporref09_Place := fn_of (P := Go.Proofs.Try.prog) (f := fn_torporref09_Place) (sg := sg_torporref09_Place) (sgs := []) (Gd := fun LP gs => torporref09_Place_g LP) (hn := []) (h := [(6, false, ⟨[(1, .it .i64), (2, .pt 0 0), (5, .it .i64)], [.va [.vs 0 (.pr (.int .i64) (.pr (.int .u32) (.pr (.int .i64) (.pr (.int .i64) (.pr (.int .i64) (.int .i64)))))), .it .i64, .it .i64]]⟩)]) (()) trivial (by kernel_rfl) (by kernel_rfl)
abbrev fn_torporref09_Find : FuncId := 14
def sg_torporref09_Find : Sig := ⟨⟨[(0, .ag [.vs 0 (.pr (.int .i64) (.pr (.int .u32) (.pr (.int .i64) (.pr (.int .i64) (.pr (.int .i64) (.int .i64)))))), .it .i64, .it .i64]), (1, .it .i64)], []⟩, [⟨[(0, .it .i64), (1, .it .i64), (2, .bo)], []⟩]⟩
def torporref09_Find_g (LP : LPT) (torporref09_Right : ((List (Int × Int × Int × Int × Int × Int)) × Int × Int) → Option (Bool)) : (((List (Int × Int × Int × Int × Int × Int)) × Int × Int) × Int) → Option (Int × Int × Bool) := fun ((x1, x2, x3), x4) =>
  (torporref09_Right (x1, x2, x3)).bind fun x5 => 
    (bif !x5 then some (0, 0, false)
    else 
      (LP ((Int × Int × Int) × (List (Int × Int × Int × Int × Int × Int)) × Int × Int) (Int × Int × Bool) (fun ((x6, x7, x8), x9, x10, x11) =>
        bif !decide (x8 = (-1)) then 
            (bif decide (0 ≤ x8) && decide (x8 < (x9.length : Int)) then 
              (bif decide (((Ty.at (.pr (.int .i64) (.pr (.int .u32) (.pr (.int .i64) (.pr (.int .i64) (.pr (.int .i64) (.int .i64)))))) x9 x8.toNat).1) = x6) then some (.inr (x8, IntKind.i64.wrap (x7 + (1 : Int)), true))
              else 
                (bif decide (x6 < ((Ty.at (.pr (.int .i64) (.pr (.int .u32) (.pr (.int .i64) (.pr (.int .i64) (.pr (.int .i64) (.int .i64)))))) x9 x8.toNat).1)) then some (.inl ((x6, IntKind.i64.wrap (x7 + (1 : Int)), (((Ty.at (.pr (.int .i64) (.pr (.int .u32) (.pr (.int .i64) (.pr (.int .i64) (.pr (.int .i64) (.int .i64)))))) x9 x8.toNat).2).2).1), x9, x10, x11))
                else some (.inl ((x6, IntKind.i64.wrap (x7 + (1 : Int)), ((((Ty.at (.pr (.int .i64) (.pr (.int .u32) (.pr (.int .i64) (.pr (.int .i64) (.pr (.int .i64) (.int .i64)))))) x9 x8.toNat).2).2).2).1), x9, x10, x11))))
              else none)
        else some (.inr (0, x7, false)))
        ((x4, 0, x2), x1, x2, x3)))
def torporref09_Find : (((List (Int × Int × Int × Int × Int × Int)) × Int × Int) × Int) → Option (Int × Int × Bool) := torporref09_Find_g LOOPx torporref09_Right
theorem torporref09_Find_ok : FnOK Go.Proofs.Try.prog fn_torporref09_Find sg_torporref09_Find torporref09_Find := fn_of (P := Go.Proofs.Try.prog) (f := fn_torporref09_Find) (sg := sg_torporref09_Find) (sgs := [(fn_torporref09_Right, sg_torporref09_Right)]) (Gd := fun LP gs => torporref09_Find_g LP gs.1) (hn := []) (h := [(16, false, ⟨[(1, .it .i64), (2, .pt 0 0), (7, .it .i64), (8, .it .i64)], [.va [.vs 0 (.pr (.int .i64) (.pr (.int .u32) (.pr (.int .i64) (.pr (.int .i64) (.pr (.int .i64) (.int .i64)))))), .it .i64, .it .i64]]⟩)]) (torporref09_Right, ()) ⟨torporref09_Right_ok, trivial⟩ (by kernel_rfl) (by kernel_rfl)
abbrev fn_torporref09_Insert : FuncId := 10
def sg_torporref09_Insert : Sig := ⟨⟨[(0, .ag [.vs 0 (.pr (.int .i64) (.pr (.int .u32) (.pr (.int .i64) (.pr (.int .i64) (.pr (.int .i64) (.int .i64)))))), .it .i64, .it .i64]), (1, .it .i64), (2, .it .u32)], []⟩, [⟨[(0, .ag [.vs 0 (.pr (.int .i64) (.pr (.int .u32) (.pr (.int .i64) (.pr (.int .i64) (.pr (.int .i64) (.int .i64)))))), .it .i64, .it .i64]), (1, .it .i64), (2, .it .i64)], []⟩]⟩
def torporref09_Insert_g (LP : LPT) (torporref09_Copy : ((List (Int × Int × Int × Int × Int × Int)) × Int × Int) → Option ((Int × Int) × List (Int × Int × Int × Int × Int × Int))) (torporref09_Laid : ((List (Int × Int × Int × Int × Int × Int)) × Int × Int) → Option ((Int × Int) × List (Int × Int × Int × Int × Int × Int))) (torporref09_Right : ((List (Int × Int × Int × Int × Int × Int)) × Int × Int) → Option (Bool)) (torporref09_Place : (((List (Int × Int × Int × Int × Int × Int)) × Int × Int) × Int) → Option (Int)) : (((List (Int × Int × Int × Int × Int × Int)) × Int × Int) × Int × Int) → Option (((List (Int × Int × Int × Int × Int × Int)) × Int × Int) × Int × Int) := fun ((x1, x2, x3), x4, x5) =>
  (torporref09_Right (x1, x2, x3)).bind fun x6 => 
    (bif !(!x6) then 
        (bif decide (x4 < (0 : Int)) then some ((x1, x2, x3), 0, 1)
        else 
          ((torporref09_Place ((x1, x2, x3), x4)).bind fun x7 => 
            (bif decide ((0 : Int) ≤ x7) then some ((x1, x2, x3), 0, 8)
            else 
              (bif decide (x3 = (-1)) then some ((x1, x2, x3), 0, 6)
              else 
                ((torporref09_Copy (x1, x2, x3)).bind fun ((x8, x9), x10) => 
                  (bif decide (0 ≤ x3) && decide (x3 < (x1.length : Int)) then 
                    (bif decide (0 ≤ x3) && decide (x3 < (x10.length : Int)) then 
                      (bif decide (x3.toNat < x10.length) then 
                        ((torporref09_Laid (x10.set x3.toNat (x4, x5, (-1), (-1), (-1), (-1)), x8, (((Ty.at (.pr (.int .i64) (.pr (.int .u32) (.pr (.int .i64) (.pr (.int .i64) (.pr (.int .i64) (.int .i64)))))) x1 x3.toNat).2).2).1)).bind fun ((x11, x12), x13) => some ((x13, x11, x12), x3, 0))
                        else none)
                      else none)
                    else none))))))
    else some ((x1, x2, x3), 0, 1))
def torporref09_Insert : (((List (Int × Int × Int × Int × Int × Int)) × Int × Int) × Int × Int) → Option (((List (Int × Int × Int × Int × Int × Int)) × Int × Int) × Int × Int) := torporref09_Insert_g LOOPx torporref09_Copy torporref09_Laid torporref09_Right torporref09_Place
theorem torporref09_Insert_ok : FnOK Go.Proofs.Try.prog fn_torporref09_Insert sg_torporref09_Insert torporref09_Insert := fn_of (P := Go.Proofs.Try.prog) (f := fn_torporref09_Insert) (sg := sg_torporref09_Insert) (sgs := [(fn_torporref09_Copy, sg_torporref09_Copy), (fn_torporref09_Laid, sg_torporref09_Laid), (fn_torporref09_Right, sg_torporref09_Right), (fn_torporref09_Place, sg_torporref09_Place)]) (Gd := fun LP gs => torporref09_Insert_g LP gs.1 gs.2.1 gs.2.2.1 gs.2.2.2.1) (hn := []) (h := []) (torporref09_Copy, torporref09_Laid, torporref09_Right, torporref09_Place, ()) ⟨torporref09_Copy_ok, torporref09_Laid_ok, torporref09_Right_ok, torporref09_Place_ok, trivial⟩ (by kernel_rfl) (by kernel_rfl)
abbrev fn_torporref09_Delete : FuncId := 12
def sg_torporref09_Delete : Sig := ⟨⟨[(0, .ag [.vs 0 (.pr (.int .i64) (.pr (.int .u32) (.pr (.int .i64) (.pr (.int .i64) (.pr (.int .i64) (.int .i64)))))), .it .i64, .it .i64]), (1, .it .i64)], []⟩, [⟨[(0, .ag [.vs 0 (.pr (.int .i64) (.pr (.int .u32) (.pr (.int .i64) (.pr (.int .i64) (.pr (.int .i64) (.int .i64)))))), .it .i64, .it .i64]), (1, .it .i64)], []⟩]⟩
def torporref09_Delete_g (LP : LPT) (torporref09_empty : Int → Option (Int × Int × Int × Int × Int × Int)) (torporref09_Copy : ((List (Int × Int × Int × Int × Int × Int)) × Int × Int) → Option ((Int × Int) × List (Int × Int × Int × Int × Int × Int))) (torporref09_Laid : ((List (Int × Int × Int × Int × Int × Int)) × Int × Int) → Option ((Int × Int) × List (Int × Int × Int × Int × Int × Int))) (torporref09_Right : ((List (Int × Int × Int × Int × Int × Int)) × Int × Int) → Option (Bool)) (torporref09_Place : (((List (Int × Int × Int × Int × Int × Int)) × Int × Int) × Int) → Option (Int)) : (((List (Int × Int × Int × Int × Int × Int)) × Int × Int) × Int) → Option (((List (Int × Int × Int × Int × Int × Int)) × Int × Int) × Int) := fun ((x1, x2, x3), x4) =>
  (torporref09_Place ((x1, x2, x3), x4)).bind fun x5 => 
    ((torporref09_Right (x1, x2, x3)).bind fun x6 => 
      (bif !x6 then some ((x1, x2, x3), 1)
      else 
        (bif decide (x5 < (0 : Int)) then some ((x1, x2, x3), 7)
        else 
          (bif decide (0 ≤ x5) && decide (x5 < (x1.length : Int)) then 
            (bif !((((((((Ty.at (.pr (.int .i64) (.pr (.int .u32) (.pr (.int .i64) (.pr (.int .i64) (.pr (.int .i64) (.int .i64)))))) x1 x5.toNat).2).2).2).2).1) == (-1)) && ((((((((Ty.at (.pr (.int .i64) (.pr (.int .u32) (.pr (.int .i64) (.pr (.int .i64) (.pr (.int .i64) (.int .i64)))))) x1 x5.toNat).2).2).2).2).2) == (-1)) && true)) then some ((x1, x2, x3), 8)
            else 
              ((torporref09_Copy (x1, x2, x3)).bind fun ((x7, x8), x9) => 
                ((torporref09_empty x3).bind fun (x10, x11, x12, x13, x14, x15) => 
                  (bif decide (0 ≤ x5) && decide (x5 < (x9.length : Int)) then 
                    (bif decide (x5.toNat < x9.length) then 
                      ((torporref09_Laid (x9.set x5.toNat (x10, x11, x12, x13, x14, x15), x7, x5)).bind fun ((x16, x17), x18) => some ((x18, x16, x17), 0))
                      else none)
                    else none))))
            else none))))
def torporref09_Delete : (((List (Int × Int × Int × Int × Int × Int)) × Int × Int) × Int) → Option (((List (Int × Int × Int × Int × Int × Int)) × Int × Int) × Int) := torporref09_Delete_g LOOPx torporref09_empty torporref09_Copy torporref09_Laid torporref09_Right torporref09_Place
theorem torporref09_Delete_ok : FnOK Go.Proofs.Try.prog fn_torporref09_Delete sg_torporref09_Delete torporref09_Delete := fn_of (P := Go.Proofs.Try.prog) (f := fn_torporref09_Delete) (sg := sg_torporref09_Delete) (sgs := [(fn_torporref09_empty, sg_torporref09_empty), (fn_torporref09_Copy, sg_torporref09_Copy), (fn_torporref09_Laid, sg_torporref09_Laid), (fn_torporref09_Right, sg_torporref09_Right), (fn_torporref09_Place, sg_torporref09_Place)]) (Gd := fun LP gs => torporref09_Delete_g LP gs.1 gs.2.1 gs.2.2.1 gs.2.2.2.1 gs.2.2.2.2.1) (hn := []) (h := []) (torporref09_empty, torporref09_Copy, torporref09_Laid, torporref09_Right, torporref09_Place, ()) ⟨torporref09_empty_ok, torporref09_Copy_ok, torporref09_Laid_ok, torporref09_Right_ok, torporref09_Place_ok, trivial⟩ (by kernel_rfl) (by kernel_rfl)
abbrev fn_torporref09_Hang : FuncId := 22
def sg_torporref09_Hang : Sig := ⟨⟨[(0, .ag [.vs 0 (.pr (.int .i64) (.pr (.int .u32) (.pr (.int .i64) (.pr (.int .i64) (.pr (.int .i64) (.int .i64)))))), .it .i64, .it .i64]), (1, .it .i64), (2, .ag [.it .i64, .it .i64])], []⟩, [⟨[(0, .ag [.vs 0 (.pr (.int .i64) (.pr (.int .u32) (.pr (.int .i64) (.pr (.int .i64) (.pr (.int .i64) (.int .i64)))))), .it .i64, .it .i64]), (1, .it .i64)], []⟩]⟩
def torporref09_Hang_g (LP : LPT) (torporref09_Copy : ((List (Int × Int × Int × Int × Int × Int)) × Int × Int) → Option ((Int × Int) × List (Int × Int × Int × Int × Int × Int))) (torporref09_Right : ((List (Int × Int × Int × Int × Int × Int)) × Int × Int) → Option (Bool)) (torporref09_Place : (((List (Int × Int × Int × Int × Int × Int)) × Int × Int) × Int) → Option (Int)) : (((List (Int × Int × Int × Int × Int × Int)) × Int × Int) × Int × Int × Int) → Option (((List (Int × Int × Int × Int × Int × Int)) × Int × Int) × Int) := fun ((x1, x2, x3), x4, x5, x6) =>
  (torporref09_Place ((x1, x2, x3), x4)).bind fun x7 => 
    ((torporref09_Right (x1, x2, x3)).bind fun x8 => 
      (bif !x8 then some ((x1, x2, x3), 1)
      else 
        (bif decide (x7 < (0 : Int)) then some ((x1, x2, x3), 7)
        else 
          ((torporref09_Copy (x1, x2, x3)).bind fun ((x9, x10), x11) => 
            (bif decide (0 ≤ x7) && decide (x7 < (x11.length : Int)) then 
              (bif decide (x7.toNat < x11.length) then some ((x11.set x7.toNat ((Ty.at (.pr (.int .i64) (.pr (.int .u32) (.pr (.int .i64) (.pr (.int .i64) (.pr (.int .i64) (.int .i64)))))) x11 x7.toNat).1, ((Ty.at (.pr (.int .i64) (.pr (.int .u32) (.pr (.int .i64) (.pr (.int .i64) (.pr (.int .i64) (.int .i64)))))) x11 x7.toNat).2).1, (((Ty.at (.pr (.int .i64) (.pr (.int .u32) (.pr (.int .i64) (.pr (.int .i64) (.pr (.int .i64) (.int .i64)))))) x11 x7.toNat).2).2).1, ((((Ty.at (.pr (.int .i64) (.pr (.int .u32) (.pr (.int .i64) (.pr (.int .i64) (.pr (.int .i64) (.int .i64)))))) x11 x7.toNat).2).2).2).1, x5, x6), x9, x10), 0)
                else none)
              else none)))))
def torporref09_Hang : (((List (Int × Int × Int × Int × Int × Int)) × Int × Int) × Int × Int × Int) → Option (((List (Int × Int × Int × Int × Int × Int)) × Int × Int) × Int) := torporref09_Hang_g LOOPx torporref09_Copy torporref09_Right torporref09_Place
theorem torporref09_Hang_ok : FnOK Go.Proofs.Try.prog fn_torporref09_Hang sg_torporref09_Hang torporref09_Hang := fn_of (P := Go.Proofs.Try.prog) (f := fn_torporref09_Hang) (sg := sg_torporref09_Hang) (sgs := [(fn_torporref09_Copy, sg_torporref09_Copy), (fn_torporref09_Right, sg_torporref09_Right), (fn_torporref09_Place, sg_torporref09_Place)]) (Gd := fun LP gs => torporref09_Hang_g LP gs.1 gs.2.1 gs.2.2.1) (hn := []) (h := []) (torporref09_Copy, torporref09_Right, torporref09_Place, ()) ⟨torporref09_Copy_ok, torporref09_Right_ok, torporref09_Place_ok, trivial⟩ (by kernel_rfl) (by kernel_rfl)
abbrev fn_treap_empty : FuncId := 27
def sg_treap_empty : Sig := ⟨⟨[(0, .it .i64)], []⟩, [⟨[(0, .ag [.it .i64, .it .u32, .it .i64, .it .i64, .it .i64, .it .i64])], []⟩]⟩
def treap_empty_g (LP : LPT) : Int → Option (Int × Int × Int × Int × Int × Int) := fun x1 =>
  some ((-1), 0, x1, (-1), (-1), (-1))
def treap_empty : Int → Option (Int × Int × Int × Int × Int × Int) := treap_empty_g LOOPx
theorem treap_empty_ok : FnOK Go.Proofs.Try.prog fn_treap_empty sg_treap_empty treap_empty := fn_of (P := Go.Proofs.Try.prog) (f := fn_treap_empty) (sg := sg_treap_empty) (sgs := []) (Gd := fun LP gs => treap_empty_g LP) (hn := []) (h := []) (()) trivial (by kernel_rfl) (by kernel_rfl)
abbrev fn_treap_above : FuncId := 42
def sg_treap_above : Sig := ⟨⟨[(0, .ag [.it .i64, .it .u32, .it .i64, .it .i64, .it .i64, .it .i64]), (1, .ag [.it .i64, .it .u32, .it .i64, .it .i64, .it .i64, .it .i64])], []⟩, [⟨[(0, .bo)], []⟩]⟩
def treap_above_g (LP : LPT) : ((Int × Int × Int × Int × Int × Int) × Int × Int × Int × Int × Int × Int) → Option (Bool) := fun ((x1, x2, x3, x4, x5, x6), x7, x8, x9, x10, x11, x12) =>
  bif !(decide (x2 < x8)) then 
      (bif decide (x2 = x8) then some (decide (x1 < x7))
      else some false)
  else some true
def treap_above : ((Int × Int × Int × Int × Int × Int) × Int × Int × Int × Int × Int × Int) → Option (Bool) := treap_above_g LOOPx
theorem treap_above_ok : FnOK Go.Proofs.Try.prog fn_treap_above sg_treap_above treap_above := fn_of (P := Go.Proofs.Try.prog) (f := fn_treap_above) (sg := sg_treap_above) (sgs := []) (Gd := fun LP gs => treap_above_g LP) (hn := []) (h := []) (()) trivial (by kernel_rfl) (by kernel_rfl)
abbrev fn_there : FuncId := 46
def sg_there : Sig := ⟨⟨[(0, .pt 0 0), (1, .it .i64)], [.va [.vs 0 (.pr (.int .i64) (.pr (.int .u32) (.pr (.int .i64) (.pr (.int .i64) (.pr (.int .i64) (.int .i64)))))), .it .i64, .it .i64, .gr 1], .gs true (.boo)]⟩, [⟨[(0, .bo)], [.va [.vs 0 (.pr (.int .i64) (.pr (.int .u32) (.pr (.int .i64) (.pr (.int .i64) (.pr (.int .i64) (.int .i64)))))), .it .i64, .it .i64, .gr 1], .gs true (.boo)]⟩]⟩
def there_g (LP : LPT) : (Int × ((List (Int × Int × Int × Int × Int × Int)) × Int × Int) × List Bool) → Option (Bool × ((List (Int × Int × Int × Int × Int × Int)) × Int × Int) × List Bool) := fun (x1, (x2, x3, x4), x5) =>
  bif !(decide (x1 < (0 : Int))) then 
      (bif !(decide ((x5.length : Int) ≤ x1)) then 
          (bif decide (0 ≤ x1) && decide (x1 < (x5.length : Int)) then 
            (bif decide (x1.toNat < x5.length) then 
              (bif Ty.at (.boo) x5 x1.toNat then some (false, (x2, x3, x4), x5)
              else 
                (bif decide (0 ≤ x1) && decide (x1 < (x5.length : Int)) then 
                  (bif decide (x1.toNat < x5.length) then some (true, (x2, x3, x4), x5.set x1.toNat true)
                    else none)
                  else none))
              else none)
            else none)
      else some (false, (x2, x3, x4), x5))
  else some (false, (x2, x3, x4), x5)
def there : (Int × ((List (Int × Int × Int × Int × Int × Int)) × Int × Int) × List Bool) → Option (Bool × ((List (Int × Int × Int × Int × Int × Int)) × Int × Int) × List Bool) := there_g LOOPx
theorem there_ok : FnOK Go.Proofs.Try.prog fn_there sg_there there := fn_of (P := Go.Proofs.Try.prog) (f := fn_there) (sg := sg_there) (sgs := []) (Gd := fun LP gs => there_g LP) (hn := []) (h := []) (()) trivial (by kernel_rfl) (by kernel_rfl)
abbrev fn_free : FuncId := 34
def sg_free : Sig := ⟨⟨[(0, .pt 0 0)], [.va [.vs 0 (.pr (.int .i64) (.pr (.int .u32) (.pr (.int .i64) (.pr (.int .i64) (.pr (.int .i64) (.int .i64)))))), .it .i64, .it .i64, .gr 1], .gs true (.boo)]⟩, [⟨[(0, .bo)], [.va [.vs 0 (.pr (.int .i64) (.pr (.int .u32) (.pr (.int .i64) (.pr (.int .i64) (.pr (.int .i64) (.int .i64)))))), .it .i64, .it .i64, .gr 1], .gs true (.boo)]⟩]⟩
def free_g (LP : LPT) (treap_empty : Int → Option (Int × Int × Int × Int × Int × Int)) (there : (Int × ((List (Int × Int × Int × Int × Int × Int)) × Int × Int) × List Bool) → Option (Bool × ((List (Int × Int × Int × Int × Int × Int)) × Int × Int) × List Bool)) : (((List (Int × Int × Int × Int × Int × Int)) × Int × Int) × List Bool) → Option (Bool × ((List (Int × Int × Int × Int × Int × Int)) × Int × Int) × List Bool) := fun ((x1, x2, x3), x4) =>
  LP (Int × ((List (Int × Int × Int × Int × Int × Int)) × Int × Int) × List Bool) (Bool × ((List (Int × Int × Int × Int × Int × Int)) × Int × Int) × List Bool) (fun (x5, (x6, x7, x8), x9) =>
    bif !decide (x5 = (-1)) then 
        ((there (x5, (x6, x7, x8), x9)).bind fun (x10, (x11, x12, x13), x14) => 
          (bif !(!x10) then 
              (bif decide (0 ≤ x5) && decide (x5 < (x11.length : Int)) then 
                (bif decide (0 ≤ x5) && decide (x5 < (x11.length : Int)) then 
                  ((treap_empty ((((Ty.at (.pr (.int .i64) (.pr (.int .u32) (.pr (.int .i64) (.pr (.int .i64) (.pr (.int .i64) (.int .i64)))))) x11 x5.toNat).2).2).1)).bind fun (x15, x16, x17, x18, x19, x20) => 
                    (bif !((((Ty.at (.pr (.int .i64) (.pr (.int .u32) (.pr (.int .i64) (.pr (.int .i64) (.pr (.int .i64) (.int .i64)))))) x11 x5.toNat).1) == x15) && (((((Ty.at (.pr (.int .i64) (.pr (.int .u32) (.pr (.int .i64) (.pr (.int .i64) (.pr (.int .i64) (.int .i64)))))) x11 x5.toNat).2).1) == x16) && ((((((Ty.at (.pr (.int .i64) (.pr (.int .u32) (.pr (.int .i64) (.pr (.int .i64) (.pr (.int .i64) (.int .i64)))))) x11 x5.toNat).2).2).1) == x17) && (((((((Ty.at (.pr (.int .i64) (.pr (.int .u32) (.pr (.int .i64) (.pr (.int .i64) (.pr (.int .i64) (.int .i64)))))) x11 x5.toNat).2).2).2).1) == x18) && ((((((((Ty.at (.pr (.int .i64) (.pr (.int .u32) (.pr (.int .i64) (.pr (.int .i64) (.pr (.int .i64) (.int .i64)))))) x11 x5.toNat).2).2).2).2).1) == x19) && ((((((((Ty.at (.pr (.int .i64) (.pr (.int .u32) (.pr (.int .i64) (.pr (.int .i64) (.pr (.int .i64) (.int .i64)))))) x11 x5.toNat).2).2).2).2).2) == x20) && true)))))) then some (.inr (false, (x11, x12, x13), x14))
                    else 
                      (bif decide (0 ≤ x5) && decide (x5 < (x11.length : Int)) then some (.inl ((((Ty.at (.pr (.int .i64) (.pr (.int .u32) (.pr (.int .i64) (.pr (.int .i64) (.pr (.int .i64) (.int .i64)))))) x11 x5.toNat).2).2).1, (x11, x12, x13), x14))
                        else none)))
                  else none)
                else none)
          else some (.inr (false, (x11, x12, x13), x14))))
    else some (.inr (true, (x6, x7, x8), x9)))
    (x3, (x1, x2, x3), x4)
def free : (((List (Int × Int × Int × Int × Int × Int)) × Int × Int) × List Bool) → Option (Bool × ((List (Int × Int × Int × Int × Int × Int)) × Int × Int) × List Bool) := free_g LOOPx treap_empty there
theorem free_ok : FnOK Go.Proofs.Try.prog fn_free sg_free free := fn_of (P := Go.Proofs.Try.prog) (f := fn_free) (sg := sg_free) (sgs := [(fn_treap_empty, sg_treap_empty), (fn_there, sg_there)]) (Gd := fun LP gs => free_g LP gs.1 gs.2.1) (hn := []) (h := [(6, false, ⟨[(0, .pt 0 0), (3, .it .i64)], [.va [.vs 0 (.pr (.int .i64) (.pr (.int .u32) (.pr (.int .i64) (.pr (.int .i64) (.pr (.int .i64) (.int .i64)))))), .it .i64, .it .i64, .gr 1], .gs true (.boo)]⟩)]) (treap_empty, there, ()) ⟨treap_empty_ok, there_ok, trivial⟩ (by kernel_rfl) (by kernel_rfl)
abbrev fn_under : FuncId := 35
def sg_under : Sig := ⟨⟨[(0, .pt 0 0), (1, .it .i64), (2, .it .i64), (3, .it .i64), (4, .pt 2 0)], [.va [.vs 0 (.pr (.int .i64) (.pr (.int .u32) (.pr (.int .i64) (.pr (.int .i64) (.pr (.int .i64) (.int .i64)))))), .it .i64, .it .i64, .gr 1], .gs true (.boo), .va [.it .i64, .it .u32, .it .i64, .it .i64, .it .i64, .it .i64]]⟩, [⟨[(0, .bo)], [.va [.vs 0 (.pr (.int .i64) (.pr (.int .u32) (.pr (.int .i64) (.pr (.int .i64) (.pr (.int .i64) (.int .i64)))))), .it .i64, .it .i64, .gr 1], .gs true (.boo), .va [.it .i64, .it .u32, .it .i64, .it .i64, .it .i64, .it .i64]]⟩]⟩
def under_g (LP : LPT) (self_under : ((Int × Int × Int) × ((List (Int × Int × Int × Int × Int × Int)) × Int × Int) × (List Bool) × Int × Int × Int × Int × Int × Int) → Option (Bool × ((List (Int × Int × Int × Int × Int × Int)) × Int × Int) × (List Bool) × Int × Int × Int × Int × Int × Int)) (treap_above : ((Int × Int × Int × Int × Int × Int) × Int × Int × Int × Int × Int × Int) → Option (Bool)) (there : (Int × ((List (Int × Int × Int × Int × Int × Int)) × Int × Int) × List Bool) → Option (Bool × ((List (Int × Int × Int × Int × Int × Int)) × Int × Int) × List Bool)) : ((Int × Int × Int) × ((List (Int × Int × Int × Int × Int × Int)) × Int × Int) × (List Bool) × Int × Int × Int × Int × Int × Int) → Option (Bool × ((List (Int × Int × Int × Int × Int × Int)) × Int × Int) × (List Bool) × Int × Int × Int × Int × Int × Int) := fun ((x1, x2, x3), (x4, x5, x6), x7, x8, x9, x10, x11, x12, x13) =>
  bif decide (x1 = (-1)) then some (true, (x4, x5, x6), x7, x8, x9, x10, x11, x12, x13)
  else 
    ((there (x1, (x4, x5, x6), x7)).bind fun (x14, (x15, x16, x17), x18) => 
      (bif !x14 then some (false, (x15, x16, x17), x18, x8, x9, x10, x11, x12, x13)
      else 
        (bif decide (0 ≤ x1) && decide (x1 < (x15.length : Int)) then 
          (Option.bind (α := ((Int × Int) × ((List (Int × Int × Int × Int × Int × Int)) × Int × Int) × (List Bool) × (Int × Int × Int × Int × Int × Int) × Int × Int × Int × Int × Int × Int) ⊕ (Bool × ((List (Int × Int × Int × Int × Int × Int)) × Int × Int) × (List Bool) × Int × Int × Int × Int × Int × Int)) (β := Bool × ((List (Int × Int × Int × Int × Int × Int)) × Int × Int) × (List Bool) × Int × Int × Int × Int × Int × Int) (bif !(decide (((Ty.at (.pr (.int .i64) (.pr (.int .u32) (.pr (.int .i64) (.pr (.int .i64) (.pr (.int .i64) (.int .i64)))))) x15 x1.toNat).1) ≤ x2)) then 
                (bif !decide (x3 = (-1)) then 
                    (bif !(decide (x3 ≤ ((Ty.at (.pr (.int .i64) (.pr (.int .u32) (.pr (.int .i64) (.pr (.int .i64) (.pr (.int .i64) (.int .i64)))))) x15 x1.toNat).1))) then 
                        ((treap_above ((x8, x9, x10, x11, x12, x13), (Ty.at (.pr (.int .i64) (.pr (.int .u32) (.pr (.int .i64) (.pr (.int .i64) (.pr (.int .i64) (.int .i64)))))) x15 x1.toNat).1, ((Ty.at (.pr (.int .i64) (.pr (.int .u32) (.pr (.int .i64) (.pr (.int .i64) (.pr (.int .i64) (.int .i64)))))) x15 x1.toNat).2).1, (((Ty.at (.pr (.int .i64) (.pr (.int .u32) (.pr (.int .i64) (.pr (.int .i64) (.pr (.int .i64) (.int .i64)))))) x15 x1.toNat).2).2).1, ((((Ty.at (.pr (.int .i64) (.pr (.int .u32) (.pr (.int .i64) (.pr (.int .i64) (.pr (.int .i64) (.int .i64)))))) x15 x1.toNat).2).2).2).1, (((((Ty.at (.pr (.int .i64) (.pr (.int .u32) (.pr (.int .i64) (.pr (.int .i64) (.pr (.int .i64) (.int .i64)))))) x15 x1.toNat).2).2).2).2).1, (((((Ty.at (.pr (.int .i64) (.pr (.int .u32) (.pr (.int .i64) (.pr (.int .i64) (.pr (.int .i64) (.int .i64)))))) x15 x1.toNat).2).2).2).2).2)).bind fun x19 => 
                          (bif !x19 then some (.inr (false, (x15, x16, x17), x18, x8, x9, x10, x11, x12, x13))
                          else some (.inl ((x2, x3), (x15, x16, x17), x18, (x8, x9, x10, x11, x12, x13), (Ty.at (.pr (.int .i64) (.pr (.int .u32) (.pr (.int .i64) (.pr (.int .i64) (.pr (.int .i64) (.int .i64)))))) x15 x1.toNat).1, ((Ty.at (.pr (.int .i64) (.pr (.int .u32) (.pr (.int .i64) (.pr (.int .i64) (.pr (.int .i64) (.int .i64)))))) x15 x1.toNat).2).1, (((Ty.at (.pr (.int .i64) (.pr (.int .u32) (.pr (.int .i64) (.pr (.int .i64) (.pr (.int .i64) (.int .i64)))))) x15 x1.toNat).2).2).1, ((((Ty.at (.pr (.int .i64) (.pr (.int .u32) (.pr (.int .i64) (.pr (.int .i64) (.pr (.int .i64) (.int .i64)))))) x15 x1.toNat).2).2).2).1, (((((Ty.at (.pr (.int .i64) (.pr (.int .u32) (.pr (.int .i64) (.pr (.int .i64) (.pr (.int .i64) (.int .i64)))))) x15 x1.toNat).2).2).2).2).1, (((((Ty.at (.pr (.int .i64) (.pr (.int .u32) (.pr (.int .i64) (.pr (.int .i64) (.pr (.int .i64) (.int .i64)))))) x15 x1.toNat).2).2).2).2).2))))
                    else some (.inr (false, (x15, x16, x17), x18, x8, x9, x10, x11, x12, x13)))
                else 
                  ((treap_above ((x8, x9, x10, x11, x12, x13), (Ty.at (.pr (.int .i64) (.pr (.int .u32) (.pr (.int .i64) (.pr (.int .i64) (.pr (.int .i64) (.int .i64)))))) x15 x1.toNat).1, ((Ty.at (.pr (.int .i64) (.pr (.int .u32) (.pr (.int .i64) (.pr (.int .i64) (.pr (.int .i64) (.int .i64)))))) x15 x1.toNat).2).1, (((Ty.at (.pr (.int .i64) (.pr (.int .u32) (.pr (.int .i64) (.pr (.int .i64) (.pr (.int .i64) (.int .i64)))))) x15 x1.toNat).2).2).1, ((((Ty.at (.pr (.int .i64) (.pr (.int .u32) (.pr (.int .i64) (.pr (.int .i64) (.pr (.int .i64) (.int .i64)))))) x15 x1.toNat).2).2).2).1, (((((Ty.at (.pr (.int .i64) (.pr (.int .u32) (.pr (.int .i64) (.pr (.int .i64) (.pr (.int .i64) (.int .i64)))))) x15 x1.toNat).2).2).2).2).1, (((((Ty.at (.pr (.int .i64) (.pr (.int .u32) (.pr (.int .i64) (.pr (.int .i64) (.pr (.int .i64) (.int .i64)))))) x15 x1.toNat).2).2).2).2).2)).bind fun x20 => 
                    (bif !x20 then some (.inr (false, (x15, x16, x17), x18, x8, x9, x10, x11, x12, x13))
                    else some (.inl ((x2, x3), (x15, x16, x17), x18, (x8, x9, x10, x11, x12, x13), (Ty.at (.pr (.int .i64) (.pr (.int .u32) (.pr (.int .i64) (.pr (.int .i64) (.pr (.int .i64) (.int .i64)))))) x15 x1.toNat).1, ((Ty.at (.pr (.int .i64) (.pr (.int .u32) (.pr (.int .i64) (.pr (.int .i64) (.pr (.int .i64) (.int .i64)))))) x15 x1.toNat).2).1, (((Ty.at (.pr (.int .i64) (.pr (.int .u32) (.pr (.int .i64) (.pr (.int .i64) (.pr (.int .i64) (.int .i64)))))) x15 x1.toNat).2).2).1, ((((Ty.at (.pr (.int .i64) (.pr (.int .u32) (.pr (.int .i64) (.pr (.int .i64) (.pr (.int .i64) (.int .i64)))))) x15 x1.toNat).2).2).2).1, (((((Ty.at (.pr (.int .i64) (.pr (.int .u32) (.pr (.int .i64) (.pr (.int .i64) (.pr (.int .i64) (.int .i64)))))) x15 x1.toNat).2).2).2).2).1, (((((Ty.at (.pr (.int .i64) (.pr (.int .u32) (.pr (.int .i64) (.pr (.int .i64) (.pr (.int .i64) (.int .i64)))))) x15 x1.toNat).2).2).2).2).2)))))
            else some (.inr (false, (x15, x16, x17), x18, x8, x9, x10, x11, x12, x13)))
            fun z => match z with
            | .inl ((x21, x22), (x23, x24, x25), x26, (x27, x28, x29, x30, x31, x32), x33, x34, x35, x36, x37, x38) => (self_under ((x35, x21, x33), (x23, x24, x25), x26, x33, x34, x35, x36, x37, x38)).bind fun (x39, (x40, x41, x42), x43, x44, x45, x46, x47, x48, x49) => 
                (bif x39 then 
                    ((self_under ((x47, x44, x22), (x40, x41, x42), x43, x44, x45, x46, x47, x48, x49)).bind fun (x50, (x51, x52, x53), x54, x55, x56, x57, x58, x59, x60) => some (x50, (x51, x52, x53), x54, x27, x28, x29, x30, x31, x32))
                else some (false, (x40, x41, x42), x43, x27, x28, x29, x30, x31, x32))
            | .inr o => some o)
          else none)))
def under : ((Int × Int × Int) × ((List (Int × Int × Int × Int × Int × Int)) × Int × Int) × (List Bool) × Int × Int × Int × Int × Int × Int) → Option (Bool × ((List (Int × Int × Int × Int × Int × Int)) × Int × Int) × (List Bool) × Int × Int × Int × Int × Int × Int) := FIX fun g => under_g LOOPx g treap_above there
theorem under_ok : FnOK Go.Proofs.Try.prog fn_under sg_under under := fn_rec (by kernel_rfl) fun g hg => fn_of (P := Go.Proofs.Try.prog) (f := fn_under) (sg := sg_under) (sgs := [(fn_under, sg_under), (fn_treap_above, sg_treap_above), (fn_there, sg_there)]) (Gd := fun LP gs => under_g LP gs.1 gs.2.1 gs.2.2.1) (hn := []) (h := [(21, true, ⟨[(0, .pt 0 0), (2, .it .i64), (3, .it .i64), (11, .pt 3 0)], [.va [.vs 0 (.pr (.int .i64) (.pr (.int .u32) (.pr (.int .i64) (.pr (.int .i64) (.pr (.int .i64) (.int .i64)))))), .it .i64, .it .i64, .gr 1], .gs true (.boo), .va [.it .i64, .it .u32, .it .i64, .it .i64, .it .i64, .it .i64], .va [.it .i64, .it .u32, .it .i64, .it .i64, .it .i64, .it .i64]]⟩)]) (g, treap_above, there, ()) ⟨hg, treap_above_ok, there_ok, trivial⟩ (by kernel_rfl) (by kernel_rfl)
abbrev fn_under_nil : FuncId := 35
def sg_under_nil : Sig := ⟨⟨[(0, .pt 0 0), (1, .it .i64), (2, .it .i64), (3, .it .i64), (4, .np)], [.va [.vs 0 (.pr (.int .i64) (.pr (.int .u32) (.pr (.int .i64) (.pr (.int .i64) (.pr (.int .i64) (.int .i64)))))), .it .i64, .it .i64, .gr 1], .gs true (.boo)]⟩, [⟨[(0, .bo)], [.va [.vs 0 (.pr (.int .i64) (.pr (.int .u32) (.pr (.int .i64) (.pr (.int .i64) (.pr (.int .i64) (.int .i64)))))), .it .i64, .it .i64, .gr 1], .gs true (.boo)]⟩]⟩
def under_nil_g (LP : LPT) (there : (Int × ((List (Int × Int × Int × Int × Int × Int)) × Int × Int) × List Bool) → Option (Bool × ((List (Int × Int × Int × Int × Int × Int)) × Int × Int) × List Bool)) (under : ((Int × Int × Int) × ((List (Int × Int × Int × Int × Int × Int)) × Int × Int) × (List Bool) × Int × Int × Int × Int × Int × Int) → Option (Bool × ((List (Int × Int × Int × Int × Int × Int)) × Int × Int) × (List Bool) × Int × Int × Int × Int × Int × Int)) : ((Int × Int × Int) × ((List (Int × Int × Int × Int × Int × Int)) × Int × Int) × List Bool) → Option (Bool × ((List (Int × Int × Int × Int × Int × Int)) × Int × Int) × List Bool) := fun ((x1, x2, x3), (x4, x5, x6), x7) =>
  bif decide (x1 = (-1)) then some (true, (x4, x5, x6), x7)
  else 
    ((there (x1, (x4, x5, x6), x7)).bind fun (x8, (x9, x10, x11), x12) => 
      (bif !x8 then some (false, (x9, x10, x11), x12)
      else 
        (bif decide (0 ≤ x1) && decide (x1 < (x9.length : Int)) then 
          (Option.bind (α := ((Int × Int) × ((List (Int × Int × Int × Int × Int × Int)) × Int × Int) × (List Bool) × Int × Int × Int × Int × Int × Int) ⊕ (Bool × ((List (Int × Int × Int × Int × Int × Int)) × Int × Int) × List Bool)) (β := Bool × ((List (Int × Int × Int × Int × Int × Int)) × Int × Int) × List Bool) (bif !(decide (((Ty.at (.pr (.int .i64) (.pr (.int .u32) (.pr (.int .i64) (.pr (.int .i64) (.pr (.int .i64) (.int .i64)))))) x9 x1.toNat).1) ≤ x2)) then 
                (bif !decide (x3 = (-1)) then 
                    (bif !(decide (x3 ≤ ((Ty.at (.pr (.int .i64) (.pr (.int .u32) (.pr (.int .i64) (.pr (.int .i64) (.pr (.int .i64) (.int .i64)))))) x9 x1.toNat).1))) then some (.inl ((x2, x3), (x9, x10, x11), x12, (Ty.at (.pr (.int .i64) (.pr (.int .u32) (.pr (.int .i64) (.pr (.int .i64) (.pr (.int .i64) (.int .i64)))))) x9 x1.toNat).1, ((Ty.at (.pr (.int .i64) (.pr (.int .u32) (.pr (.int .i64) (.pr (.int .i64) (.pr (.int .i64) (.int .i64)))))) x9 x1.toNat).2).1, (((Ty.at (.pr (.int .i64) (.pr (.int .u32) (.pr (.int .i64) (.pr (.int .i64) (.pr (.int .i64) (.int .i64)))))) x9 x1.toNat).2).2).1, ((((Ty.at (.pr (.int .i64) (.pr (.int .u32) (.pr (.int .i64) (.pr (.int .i64) (.pr (.int .i64) (.int .i64)))))) x9 x1.toNat).2).2).2).1, (((((Ty.at (.pr (.int .i64) (.pr (.int .u32) (.pr (.int .i64) (.pr (.int .i64) (.pr (.int .i64) (.int .i64)))))) x9 x1.toNat).2).2).2).2).1, (((((Ty.at (.pr (.int .i64) (.pr (.int .u32) (.pr (.int .i64) (.pr (.int .i64) (.pr (.int .i64) (.int .i64)))))) x9 x1.toNat).2).2).2).2).2))
                    else some (.inr (false, (x9, x10, x11), x12)))
                else some (.inl ((x2, x3), (x9, x10, x11), x12, (Ty.at (.pr (.int .i64) (.pr (.int .u32) (.pr (.int .i64) (.pr (.int .i64) (.pr (.int .i64) (.int .i64)))))) x9 x1.toNat).1, ((Ty.at (.pr (.int .i64) (.pr (.int .u32) (.pr (.int .i64) (.pr (.int .i64) (.pr (.int .i64) (.int .i64)))))) x9 x1.toNat).2).1, (((Ty.at (.pr (.int .i64) (.pr (.int .u32) (.pr (.int .i64) (.pr (.int .i64) (.pr (.int .i64) (.int .i64)))))) x9 x1.toNat).2).2).1, ((((Ty.at (.pr (.int .i64) (.pr (.int .u32) (.pr (.int .i64) (.pr (.int .i64) (.pr (.int .i64) (.int .i64)))))) x9 x1.toNat).2).2).2).1, (((((Ty.at (.pr (.int .i64) (.pr (.int .u32) (.pr (.int .i64) (.pr (.int .i64) (.pr (.int .i64) (.int .i64)))))) x9 x1.toNat).2).2).2).2).1, (((((Ty.at (.pr (.int .i64) (.pr (.int .u32) (.pr (.int .i64) (.pr (.int .i64) (.pr (.int .i64) (.int .i64)))))) x9 x1.toNat).2).2).2).2).2)))
            else some (.inr (false, (x9, x10, x11), x12)))
            fun z => match z with
            | .inl ((x13, x14), (x15, x16, x17), x18, x19, x20, x21, x22, x23, x24) => (under ((x21, x13, x19), (x15, x16, x17), x18, x19, x20, x21, x22, x23, x24)).bind fun (x25, (x26, x27, x28), x29, x30, x31, x32, x33, x34, x35) => 
                (bif x25 then 
                    ((under ((x33, x30, x14), (x26, x27, x28), x29, x30, x31, x32, x33, x34, x35)).bind fun (x36, (x37, x38, x39), x40, x41, x42, x43, x44, x45, x46) => some (x36, (x37, x38, x39), x40))
                else some (false, (x26, x27, x28), x29))
            | .inr o => some o)
          else none)))
def under_nil : ((Int × Int × Int) × ((List (Int × Int × Int × Int × Int × Int)) × Int × Int) × List Bool) → Option (Bool × ((List (Int × Int × Int × Int × Int × Int)) × Int × Int) × List Bool) := under_nil_g LOOPx there under
theorem under_nil_ok : FnOK Go.Proofs.Try.prog fn_under_nil sg_under_nil under_nil := fn_of (P := Go.Proofs.Try.prog) (f := fn_under_nil) (sg := sg_under_nil) (sgs := [(fn_there, sg_there), (fn_under, sg_under)]) (Gd := fun LP gs => under_nil_g LP gs.1 gs.2.1) (hn := []) (h := [(21, true, ⟨[(0, .pt 0 0), (2, .it .i64), (3, .it .i64), (11, .pt 2 0)], [.va [.vs 0 (.pr (.int .i64) (.pr (.int .u32) (.pr (.int .i64) (.pr (.int .i64) (.pr (.int .i64) (.int .i64)))))), .it .i64, .it .i64, .gr 1], .gs true (.boo), .va [.it .i64, .it .u32, .it .i64, .it .i64, .it .i64, .it .i64]]⟩)]) (there, under, ()) ⟨there_ok, under_ok, trivial⟩ (by kernel_rfl) (by kernel_rfl)
abbrev fn_Index_bool : FuncId := 47
def sg_Index_bool : Sig := ⟨⟨[(0, .vs 0 (.boo)), (1, .bo)], []⟩, [⟨[(0, .it .i64)], []⟩]⟩
def Index_bool_g (LP : LPT) : ((List Bool) × Bool) → Option (Int) := fun (x1, x2) =>
  LP ((List Bool) × Bool × Int × Int) (Int) (fun (x3, x4, x5, x6) =>
    bif decide (x6 < x5) then 
        (bif decide (0 ≤ x6) && decide (x6 < (x3.length : Int)) then 
          (bif x4 == (Ty.at (.boo) x3 x6.toNat) then some (.inr x6)
          else some (.inl (x3, x4, x5, IntKind.i64.wrap (x6 + (1 : Int)))))
          else none)
    else some (.inr (-1)))
    (x1, x2, (x1.length : Int), 0)
def Index_bool : ((List Bool) × Bool) → Option (Int) := Index_bool_g LOOPx
theorem Index_bool_ok : FnOK Go.Proofs.Try.prog fn_Index_bool sg_Index_bool Index_bool := fn_of (P := Go.Proofs.Try.prog) (f := fn_Index_bool) (sg := sg_Index_bool) (sgs := []) (Gd := fun LP gs => Index_bool_g LP) (hn := []) (h := [(6, false, ⟨[(0, .vs 0 (.boo)), (1, .bo), (7, .it .i64), (8, .it .i64)], []⟩)]) (()) trivial (by kernel_rfl) (by kernel_rfl)
abbrev fn_Contains_bool : FuncId := 36
def sg_Contains_bool : Sig := ⟨⟨[(0, .vs 0 (.boo)), (1, .bo)], []⟩, [⟨[(0, .bo)], []⟩]⟩
def Contains_bool_g (LP : LPT) (Index_bool : ((List Bool) × Bool) → Option (Int)) : ((List Bool) × Bool) → Option (Bool) := fun (x1, x2) =>
  (Index_bool (x1, x2)).bind fun x3 => some (decide ((0 : Int) ≤ x3))
def Contains_bool : ((List Bool) × Bool) → Option (Bool) := Contains_bool_g LOOPx Index_bool
theorem Contains_bool_ok : FnOK Go.Proofs.Try.prog fn_Contains_bool sg_Contains_bool Contains_bool := fn_of (P := Go.Proofs.Try.prog) (f := fn_Contains_bool) (sg := sg_Contains_bool) (sgs := [(fn_Index_bool, sg_Index_bool)]) (Gd := fun LP gs => Contains_bool_g LP gs.1) (hn := []) (h := []) (Index_bool, ()) ⟨Index_bool_ok, trivial⟩ (by kernel_rfl) (by kernel_rfl)
abbrev fn_treap_Right : FuncId := 16
def sg_treap_Right : Sig := ⟨⟨[(0, .ag [.vs 0 (.pr (.int .i64) (.pr (.int .u32) (.pr (.int .i64) (.pr (.int .i64) (.pr (.int .i64) (.int .i64)))))), .it .i64, .it .i64])], []⟩, [⟨[(0, .bo)], []⟩]⟩
def treap_Right_g (LP : LPT) (free : (((List (Int × Int × Int × Int × Int × Int)) × Int × Int) × List Bool) → Option (Bool × ((List (Int × Int × Int × Int × Int × Int)) × Int × Int) × List Bool)) (under_nil : ((Int × Int × Int) × ((List (Int × Int × Int × Int × Int × Int)) × Int × Int) × List Bool) → Option (Bool × ((List (Int × Int × Int × Int × Int × Int)) × Int × Int) × List Bool)) (Contains_bool : ((List Bool) × Bool) → Option (Bool)) : ((List (Int × Int × Int × Int × Int × Int)) × Int × Int) → Option (Bool) := fun (x1, x2, x3) =>
  bif decide (0 ≤ (x1.length : Int)) && (decide ((x1.length : Int) ≤ (x1.length : Int)) && (decide ((x1.length : Int) ≤ 9223372036854775807) && decide ((1 : Int) * (x1.length : Int) ≤ 140737488355328))) then 
    (bif decide ((x1.length : Int) ≤ (64 : Int)) then 
        ((free ((x1, x2, x3), List.replicate (x1.length : Int).toNat false)).bind fun (x4, (x5, x6, x7), x8) => 
          (bif x4 then 
              ((under_nil ((x2, (-1), (-1)), (x5, x6, x7), x8)).bind fun (x9, (x10, x11, x12), x13) => 
                (bif x9 then 
                    ((Contains_bool (x13, false)).bind fun x14 => some (!x14))
                else some false))
          else some false))
    else some false)
    else none
def treap_Right : ((List (Int × Int × Int × Int × Int × Int)) × Int × Int) → Option (Bool) := treap_Right_g LOOPx free under_nil Contains_bool
theorem treap_Right_ok : FnOK Go.Proofs.Try.prog fn_treap_Right sg_treap_Right treap_Right := fn_of (P := Go.Proofs.Try.prog) (f := fn_treap_Right) (sg := sg_treap_Right) (sgs := [(fn_free, sg_free), (fn_under_nil, sg_under_nil), (fn_Contains_bool, sg_Contains_bool)]) (Gd := fun LP gs => treap_Right_g LP gs.1 gs.2.1 gs.2.2.1) (hn := []) (h := []) (free, under_nil, Contains_bool, ()) ⟨free_ok, under_nil_ok, Contains_bool_ok, trivial⟩ (by kernel_rfl) (by kernel_rfl)
abbrev fn_Reverse_Node : FuncId := 40
def sg_Reverse_Node : Sig := ⟨⟨[(0, .gr 0)], [.gs true (.pr (.int .i64) (.pr (.int .u32) (.pr (.int .i64) (.pr (.int .i64) (.pr (.int .i64) (.int .i64))))))]⟩, [⟨[], [.gs true (.pr (.int .i64) (.pr (.int .u32) (.pr (.int .i64) (.pr (.int .i64) (.pr (.int .i64) (.int .i64))))))]⟩]⟩
def Reverse_Node_g (LP : LPT) : (List (Int × Int × Int × Int × Int × Int)) → Option (List (Int × Int × Int × Int × Int × Int)) := fun x1 =>
  LP ((Int × Int) × List (Int × Int × Int × Int × Int × Int)) (List (Int × Int × Int × Int × Int × Int)) (fun ((x2, x3), x4) =>
    bif decide (x2 < x3) then 
        (bif decide (0 ≤ x3) && decide (x3 < (x4.length : Int)) then 
          (bif decide (x3.toNat < x4.length) then 
            (bif decide (0 ≤ x2) && decide (x2 < (x4.length : Int)) then 
              (bif decide (x2.toNat < x4.length) then 
                (bif decide (0 ≤ x2) && decide (x2 < (x4.length : Int)) then 
                  (bif decide (x2.toNat < x4.length) then 
                    (bif decide (0 ≤ x3) && decide (x3 < ((x4.set x2.toNat ((Ty.at (.pr (.int .i64) (.pr (.int .u32) (.pr (.int .i64) (.pr (.int .i64) (.pr (.int .i64) (.int .i64)))))) x4 x3.toNat).1, ((Ty.at (.pr (.int .i64) (.pr (.int .u32) (.pr (.int .i64) (.pr (.int .i64) (.pr (.int .i64) (.int .i64)))))) x4 x3.toNat).2).1, (((Ty.at (.pr (.int .i64) (.pr (.int .u32) (.pr (.int .i64) (.pr (.int .i64) (.pr (.int .i64) (.int .i64)))))) x4 x3.toNat).2).2).1, ((((Ty.at (.pr (.int .i64) (.pr (.int .u32) (.pr (.int .i64) (.pr (.int .i64) (.pr (.int .i64) (.int .i64)))))) x4 x3.toNat).2).2).2).1, (((((Ty.at (.pr (.int .i64) (.pr (.int .u32) (.pr (.int .i64) (.pr (.int .i64) (.pr (.int .i64) (.int .i64)))))) x4 x3.toNat).2).2).2).2).1, (((((Ty.at (.pr (.int .i64) (.pr (.int .u32) (.pr (.int .i64) (.pr (.int .i64) (.pr (.int .i64) (.int .i64)))))) x4 x3.toNat).2).2).2).2).2)).length : Int)) then 
                      (bif decide (x3.toNat < (x4.set x2.toNat ((Ty.at (.pr (.int .i64) (.pr (.int .u32) (.pr (.int .i64) (.pr (.int .i64) (.pr (.int .i64) (.int .i64)))))) x4 x3.toNat).1, ((Ty.at (.pr (.int .i64) (.pr (.int .u32) (.pr (.int .i64) (.pr (.int .i64) (.pr (.int .i64) (.int .i64)))))) x4 x3.toNat).2).1, (((Ty.at (.pr (.int .i64) (.pr (.int .u32) (.pr (.int .i64) (.pr (.int .i64) (.pr (.int .i64) (.int .i64)))))) x4 x3.toNat).2).2).1, ((((Ty.at (.pr (.int .i64) (.pr (.int .u32) (.pr (.int .i64) (.pr (.int .i64) (.pr (.int .i64) (.int .i64)))))) x4 x3.toNat).2).2).2).1, (((((Ty.at (.pr (.int .i64) (.pr (.int .u32) (.pr (.int .i64) (.pr (.int .i64) (.pr (.int .i64) (.int .i64)))))) x4 x3.toNat).2).2).2).2).1, (((((Ty.at (.pr (.int .i64) (.pr (.int .u32) (.pr (.int .i64) (.pr (.int .i64) (.pr (.int .i64) (.int .i64)))))) x4 x3.toNat).2).2).2).2).2)).length) then some (.inl ((IntKind.i64.wrap (x2 + (1 : Int)), IntKind.i64.wrap (x3 - (1 : Int))), (x4.set x2.toNat ((Ty.at (.pr (.int .i64) (.pr (.int .u32) (.pr (.int .i64) (.pr (.int .i64) (.pr (.int .i64) (.int .i64)))))) x4 x3.toNat).1, ((Ty.at (.pr (.int .i64) (.pr (.int .u32) (.pr (.int .i64) (.pr (.int .i64) (.pr (.int .i64) (.int .i64)))))) x4 x3.toNat).2).1, (((Ty.at (.pr (.int .i64) (.pr (.int .u32) (.pr (.int .i64) (.pr (.int .i64) (.pr (.int .i64) (.int .i64)))))) x4 x3.toNat).2).2).1, ((((Ty.at (.pr (.int .i64) (.pr (.int .u32) (.pr (.int .i64) (.pr (.int .i64) (.pr (.int .i64) (.int .i64)))))) x4 x3.toNat).2).2).2).1, (((((Ty.at (.pr (.int .i64) (.pr (.int .u32) (.pr (.int .i64) (.pr (.int .i64) (.pr (.int .i64) (.int .i64)))))) x4 x3.toNat).2).2).2).2).1, (((((Ty.at (.pr (.int .i64) (.pr (.int .u32) (.pr (.int .i64) (.pr (.int .i64) (.pr (.int .i64) (.int .i64)))))) x4 x3.toNat).2).2).2).2).2)).set x3.toNat ((Ty.at (.pr (.int .i64) (.pr (.int .u32) (.pr (.int .i64) (.pr (.int .i64) (.pr (.int .i64) (.int .i64)))))) x4 x2.toNat).1, ((Ty.at (.pr (.int .i64) (.pr (.int .u32) (.pr (.int .i64) (.pr (.int .i64) (.pr (.int .i64) (.int .i64)))))) x4 x2.toNat).2).1, (((Ty.at (.pr (.int .i64) (.pr (.int .u32) (.pr (.int .i64) (.pr (.int .i64) (.pr (.int .i64) (.int .i64)))))) x4 x2.toNat).2).2).1, ((((Ty.at (.pr (.int .i64) (.pr (.int .u32) (.pr (.int .i64) (.pr (.int .i64) (.pr (.int .i64) (.int .i64)))))) x4 x2.toNat).2).2).2).1, (((((Ty.at (.pr (.int .i64) (.pr (.int .u32) (.pr (.int .i64) (.pr (.int .i64) (.pr (.int .i64) (.int .i64)))))) x4 x2.toNat).2).2).2).2).1, (((((Ty.at (.pr (.int .i64) (.pr (.int .u32) (.pr (.int .i64) (.pr (.int .i64) (.pr (.int .i64) (.int .i64)))))) x4 x2.toNat).2).2).2).2).2)))
                        else none)
                      else none)
                    else none)
                  else none)
                else none)
              else none)
            else none)
          else none)
    else some (.inr x4))
    ((0, IntKind.i64.wrap ((x1.length : Int) - (1 : Int))), x1)
def Reverse_Node : (List (Int × Int × Int × Int × Int × Int)) → Option (List (Int × Int × Int × Int × Int × Int)) := Reverse_Node_g LOOPx
theorem Reverse_Node_ok : FnOK Go.Proofs.Try.prog fn_Reverse_Node sg_Reverse_Node Reverse_Node := fn_of (P := Go.Proofs.Try.prog) (f := fn_Reverse_Node) (sg := sg_Reverse_Node) (sgs := []) (Gd := fun LP gs => Reverse_Node_g LP) (hn := []) (h := [(3, false, ⟨[(0, .gr 0), (2, .it .i64), (3, .it .i64)], [.gs true (.pr (.int .i64) (.pr (.int .u32) (.pr (.int .i64) (.pr (.int .i64) (.pr (.int .i64) (.int .i64))))))]⟩)]) (()) trivial (by kernel_rfl) (by kernel_rfl)
abbrev fn_treap_Make : FuncId := 23
def sg_treap_Make : Sig := ⟨⟨[(0, .it .i64)], []⟩, [⟨[(0, .ag [.gr 0, .it .i64, .it .i64]), (1, .it .i64)], [.gs true (.pr (.int .i64) (.pr (.int .u32) (.pr (.int .i64) (.pr (.int .i64) (.pr (.int .i64) (.int .i64))))))]⟩]⟩
def treap_Make_g (LP : LPT) (treap_empty : Int → Option (Int × Int × Int × Int × Int × Int)) (Reverse_Node : (List (Int × Int × Int × Int × Int × Int)) → Option (List (Int × Int × Int × Int × Int × Int))) : Int → Option (((Int × Int) × Int) × List (Int × Int × Int × Int × Int × Int)) := fun x1 =>
  bif !(decide (x1 < (0 : Int))) then 
      (bif decide ((64 : Int) < x1) then some (((0, 0), 1), [])
      else 
        (Option.bind (α := ((Int × Int) × (Int × Int) × List (Int × Int × Int × Int × Int × Int)) ⊕ (((Int × Int) × Int) × List (Int × Int × Int × Int × Int × Int))) (β := ((Int × Int) × Int) × List (Int × Int × Int × Int × Int × Int)) (LP (Int × (Int × Int) × (Int × Int) × List (Int × Int × Int × Int × Int × Int)) (((Int × Int) × (Int × Int) × List (Int × Int × Int × Int × Int × Int)) ⊕ (((Int × Int) × Int) × List (Int × Int × Int × Int × Int × Int))) (fun (x2, (x3, x4), (x5, x6), x7) =>
            bif decide ((0 : Int) ≤ x2) then 
                ((treap_empty x6).bind fun (x8, x9, x10, x11, x12, x13) => 
                  (bif decide ((x7.length + ([(x8, x9, x10, x11, x12, x13)]).length) * 48 ≤ 140737488355328) then some (.inl (IntKind.i64.wrap (x2 - (1 : Int)), (x3, x4), (x5, x2), x7 ++ ([(x8, x9, x10, x11, x12, x13)])))
                    else none))
            else some (.inr (.inl ((x3, x4), (x5, x6), x7))))
            (IntKind.i64.wrap (x1 - (1 : Int)), (0, 0), ((-1), (-1)), []))
          fun z => match z with
          | .inl ((x14, x15), (x16, x17), x18) => (Reverse_Node x18).bind fun x19 => some (((x16, x17), 0), x19)
          | .inr o => some o))
  else some (((0, 0), 1), [])
def treap_Make : Int → Option (((Int × Int) × Int) × List (Int × Int × Int × Int × Int × Int)) := treap_Make_g LOOPx treap_empty Reverse_Node
theorem treap_Make_ok : FnOK Go.Proofs.Try.prog fn_treap_Make sg_treap_Make treap_Make := fn_of (P := Go.Proofs.Try.prog) (f := fn_treap_Make) (sg := sg_treap_Make) (sgs := [(fn_treap_empty, sg_treap_empty), (fn_Reverse_Node, sg_Reverse_Node)]) (Gd := fun LP gs => treap_Make_g LP gs.1 gs.2.1) (hn := []) (h := [(13, true, ⟨[(2, .pt 0 0), (4, .pt 1 0)], [.va [.sn, .it .i64, .it .i64], .va [.gr 2, .it .i64, .it .i64], .gs true (.pr (.int .i64) (.pr (.int .u32) (.pr (.int .i64) (.pr (.int .i64) (.pr (.int .i64) (.int .i64))))))]⟩), (16, false, ⟨[(2, .pt 0 0), (4, .pt 1 0), (5, .it .i64)], [.va [.sn, .it .i64, .it .i64], .va [.gr 2, .it .i64, .it .i64], .gs true (.pr (.int .i64) (.pr (.int .u32) (.pr (.int .i64) (.pr (.int .i64) (.pr (.int .i64) (.int .i64))))))]⟩)]) (treap_empty, Reverse_Node, ()) ⟨treap_empty_ok, Reverse_Node_ok, trivial⟩ (by kernel_rfl) (by kernel_rfl)
abbrev fn_Sort_int : FuncId := 39
abbrev sg_Sort_int : Sig := sgSortI
def Sort_int : (List Int) → Option (List Int) := sortIG
theorem Sort_int_ok : FnOK Go.Proofs.Try.prog fn_Sort_int sg_Sort_int Sort_int := sortInt_ok (by kernel_rfl) Go.Proofs.sortI_int
abbrev fn_treap_Keys : FuncId := 19
def sg_treap_Keys : Sig := ⟨⟨[(0, .ag [.vs 0 (.pr (.int .i64) (.pr (.int .u32) (.pr (.int .i64) (.pr (.int .i64) (.pr (.int .i64) (.int .i64)))))), .it .i64, .it .i64])], []⟩, [⟨[(0, .gr 0)], [.gs true (.int .i64)]⟩]⟩
def treap_Keys_g (LP : LPT) (treap_Right : ((List (Int × Int × Int × Int × Int × Int)) × Int × Int) → Option (Bool)) (Sort_int : (List Int) → Option (List Int)) : ((List (Int × Int × Int × Int × Int × Int)) × Int × Int) → Option (List Int) := fun (x1, x2, x3) =>
  (treap_Right (x1, x2, x3)).bind fun x4 => 
    (bif !x4 then some ([])
    else 
      (LP (((List (Int × Int × Int × Int × Int × Int)) × Int × Int) × List Int) (List Int) (fun ((x5, x6, x7), x8) =>
        bif decide (x7 < x6) then 
            (bif decide (0 ≤ x7) && decide (x7 < (x5.length : Int)) then 
              (bif !decide (((Ty.at (.pr (.int .i64) (.pr (.int .u32) (.pr (.int .i64) (.pr (.int .i64) (.pr (.int .i64) (.int .i64)))))) x5 x7.toNat).1) = (-1)) then 
                  (bif decide ((x8.length + ([(Ty.at (.pr (.int .i64) (.pr (.int .u32) (.pr (.int .i64) (.pr (.int .i64) (.pr (.int .i64) (.int .i64)))))) x5 x7.toNat).1]).length) * 8 ≤ 140737488355328) then some (.inl ((x5, x6, IntKind.i64.wrap (x7 + (1 : Int))), x8 ++ ([(Ty.at (.pr (.int .i64) (.pr (.int .u32) (.pr (.int .i64) (.pr (.int .i64) (.pr (.int .i64) (.int .i64)))))) x5 x7.toNat).1])))
                    else none)
              else some (.inl ((x5, x6, IntKind.i64.wrap (x7 + (1 : Int))), x8)))
              else none)
        else 
          (inR ((Sort_int x8).bind fun x9 => some x9)))
        ((x1, (x1.length : Int), 0), [])))
def treap_Keys : ((List (Int × Int × Int × Int × Int × Int)) × Int × Int) → Option (List Int) := treap_Keys_g LOOPx treap_Right Sort_int
theorem treap_Keys_ok : FnOK Go.Proofs.Try.prog fn_treap_Keys sg_treap_Keys treap_Keys := fn_of (P := Go.Proofs.Try.prog) (f := fn_treap_Keys) (sg := sg_treap_Keys) (sgs := [(fn_treap_Right, sg_treap_Right), (fn_Sort_int, sg_Sort_int)]) (Gd := fun LP gs => treap_Keys_g LP gs.1 gs.2.1) (hn := []) (h := [(16, false, ⟨[(3, .gr 0), (10, .vs 0 (.pr (.int .i64) (.pr (.int .u32) (.pr (.int .i64) (.pr (.int .i64) (.pr (.int .i64) (.int .i64))))))), (11, .it .i64), (12, .it .i64)], [.gs true (.int .i64)]⟩)]) (treap_Right, Sort_int, ()) ⟨treap_Right_ok, Sort_int_ok, trivial⟩ (by kernel_rfl) (by kernel_rfl)
abbrev fn_treap_Find : FuncId := 13
def sg_treap_Find : Sig := ⟨⟨[(0, .ag [.vs 0 (.pr (.int .i64) (.pr (.int .u32) (.pr (.int .i64) (.pr (.int .i64) (.pr (.int .i64) (.int .i64)))))), .it .i64, .it .i64]), (1, .it .i64)], []⟩, [⟨[(0, .it .i64), (1, .it .i64), (2, .bo)], []⟩]⟩
def treap_Find_g (LP : LPT) (treap_Right : ((List (Int × Int × Int × Int × Int × Int)) × Int × Int) → Option (Bool)) : (((List (Int × Int × Int × Int × Int × Int)) × Int × Int) × Int) → Option (Int × Int × Bool) := fun ((x1, x2, x3), x4) =>
  (treap_Right (x1, x2, x3)).bind fun x5 => 
    (bif !x5 then some (0, 0, false)
    else 
      (LP ((Int × Int × Int) × (List (Int × Int × Int × Int × Int × Int)) × Int × Int) (Int × Int × Bool) (fun ((x6, x7, x8), x9, x10, x11) =>
        bif !decide (x8 = (-1)) then 
            (bif decide (0 ≤ x8) && decide (x8 < (x9.length : Int)) then 
              (bif decide (x6 < ((Ty.at (.pr (.int .i64) (.pr (.int .u32) (.pr (.int .i64) (.pr (.int .i64) (.pr (.int .i64) (.int .i64)))))) x9 x8.toNat).1)) then some (.inl ((x6, IntKind.i64.wrap (x7 + (1 : Int)), (((Ty.at (.pr (.int .i64) (.pr (.int .u32) (.pr (.int .i64) (.pr (.int .i64) (.pr (.int .i64) (.int .i64)))))) x9 x8.toNat).2).2).1), x9, x10, x11))
              else 
                (bif decide (((Ty.at (.pr (.int .i64) (.pr (.int .u32) (.pr (.int .i64) (.pr (.int .i64) (.pr (.int .i64) (.int .i64)))))) x9 x8.toNat).1) < x6) then some (.inl ((x6, IntKind.i64.wrap (x7 + (1 : Int)), ((((Ty.at (.pr (.int .i64) (.pr (.int .u32) (.pr (.int .i64) (.pr (.int .i64) (.pr (.int .i64) (.int .i64)))))) x9 x8.toNat).2).2).2).1), x9, x10, x11))
                else some (.inr (x8, IntKind.i64.wrap (x7 + (1 : Int)), true))))
              else none)
        else some (.inr (0, x7, false)))
        ((x4, 0, x2), x1, x2, x3)))
def treap_Find : (((List (Int × Int × Int × Int × Int × Int)) × Int × Int) × Int) → Option (Int × Int × Bool) := treap_Find_g LOOPx treap_Right
theorem treap_Find_ok : FnOK Go.Proofs.Try.prog fn_treap_Find sg_treap_Find treap_Find := fn_of (P := Go.Proofs.Try.prog) (f := fn_treap_Find) (sg := sg_treap_Find) (sgs := [(fn_treap_Right, sg_treap_Right)]) (Gd := fun LP gs => treap_Find_g LP gs.1) (hn := []) (h := [(14, false, ⟨[(1, .it .i64), (2, .pt 0 0), (5, .it .i64), (7, .it .i64)], [.va [.vs 0 (.pr (.int .i64) (.pr (.int .u32) (.pr (.int .i64) (.pr (.int .i64) (.pr (.int .i64) (.int .i64)))))), .it .i64, .it .i64]]⟩)]) (treap_Right, ()) ⟨treap_Right_ok, trivial⟩ (by kernel_rfl) (by kernel_rfl)
abbrev fn_Clone_Node : FuncId := 41
def sg_Clone_Node : Sig := sgClone (.pr (.int .i64) (.pr (.int .u32) (.pr (.int .i64) (.pr (.int .i64) (.pr (.int .i64) (.int .i64))))))
def Clone_Node : (List (Int × Int × Int × Int × Int × Int)) → Option (List (Int × Int × Int × Int × Int × Int)) := cloneG (.pr (.int .i64) (.pr (.int .u32) (.pr (.int .i64) (.pr (.int .i64) (.pr (.int .i64) (.int .i64)))))) 48
theorem Clone_Node_ok : FnOK Go.Proofs.Try.prog fn_Clone_Node sg_Clone_Node Clone_Node := clone_ok (.pr (.int .i64) (.pr (.int .u32) (.pr (.int .i64) (.pr (.int .i64) (.pr (.int .i64) (.int .i64)))))) 48 (by kernel_rfl) (by kernel_rfl) (by kernel_rfl)
abbrev fn_treap_own : FuncId := 26
def sg_treap_own : Sig := ⟨⟨[(0, .ag [.vs 0 (.pr (.int .i64) (.pr (.int .u32) (.pr (.int .i64) (.pr (.int .i64) (.pr (.int .i64) (.int .i64)))))), .it .i64, .it .i64])], []⟩, [⟨[(0, .pt 0 0)], [.va [.gr 1, .it .i64, .it .i64], .gs true (.pr (.int .i64) (.pr (.int .u32) (.pr (.int .i64) (.pr (.int .i64) (.pr (.int .i64) (.int .i64))))))]⟩]⟩
def treap_own_g (LP : LPT) (Clone_Node : (List (Int × Int × Int × Int × Int × Int)) → Option (List (Int × Int × Int × Int × Int × Int))) : ((List (Int × Int × Int × Int × Int × Int)) × Int × Int) → Option ((Int × Int) × List (Int × Int × Int × Int × Int × Int)) := fun (x1, x2, x3) =>
  (Clone_Node x1).bind fun x4 => some ((x2, x3), x4)
def treap_own : ((List (Int × Int × Int × Int × Int × Int)) × Int × Int) → Option ((Int × Int) × List (Int × Int × Int × Int × Int × Int)) := treap_own_g LOOPx Clone_Node
theorem treap_own_ok : FnOK Go.Proofs.Try.prog fn_treap_own sg_treap_own treap_own := fn_of (P := Go.Proofs.Try.prog) (f := fn_treap_own) (sg := sg_treap_own) (sgs := [(fn_Clone_Node, sg_Clone_Node)]) (Gd := fun LP gs => treap_own_g LP gs.1) (hn := []) (h := []) (Clone_Node, ()) ⟨Clone_Node_ok, trivial⟩ (by kernel_rfl) (by kernel_rfl)
abbrev fn_split : FuncId := 43
def sg_split : Sig := ⟨⟨[(0, .pt 0 0), (1, .it .i64), (2, .it .i64)], [.va [.gr 1, .it .i64, .it .i64], .gs true (.pr (.int .i64) (.pr (.int .u32) (.pr (.int .i64) (.pr (.int .i64) (.pr (.int .i64) (.int .i64))))))]⟩, [⟨[(0, .it .i64), (1, .it .i64)], [.va [.gr 1, .it .i64, .it .i64], .gs true (.pr (.int .i64) (.pr (.int .u32) (.pr (.int .i64) (.pr (.int .i64) (.pr (.int .i64) (.int .i64))))))]⟩]⟩
def split_g (LP : LPT) (self_split : ((Int × Int) × (Int × Int) × List (Int × Int × Int × Int × Int × Int)) → Option ((Int × Int) × (Int × Int) × List (Int × Int × Int × Int × Int × Int))) : ((Int × Int) × (Int × Int) × List (Int × Int × Int × Int × Int × Int)) → Option ((Int × Int) × (Int × Int) × List (Int × Int × Int × Int × Int × Int)) := fun ((x1, x2), (x3, x4), x5) =>
  bif decide (x1 = (-1)) then some (((-1), (-1)), (x3, x4), x5)
  else 
    (bif decide (0 ≤ x1) && decide (x1 < (x5.length : Int)) then 
      (bif decide (x1.toNat < x5.length) then 
        (bif decide (((Ty.at (.pr (.int .i64) (.pr (.int .u32) (.pr (.int .i64) (.pr (.int .i64) (.pr (.int .i64) (.int .i64)))))) x5 x1.toNat).1) < x2) then 
            (bif decide (x1.toNat < x5.length) then 
              ((self_split ((((((Ty.at (.pr (.int .i64) (.pr (.int .u32) (.pr (.int .i64) (.pr (.int .i64) (.pr (.int .i64) (.int .i64)))))) x5 x1.toNat).2).2).2).1, x2), (x3, x4), x5)).bind fun ((x6, x7), (x8, x9), x10) => 
                (bif decide (x1.toNat < x10.length) then some ((x1, x7), (x8, x9), x10.set x1.toNat ((Ty.at (.pr (.int .i64) (.pr (.int .u32) (.pr (.int .i64) (.pr (.int .i64) (.pr (.int .i64) (.int .i64)))))) x10 x1.toNat).1, ((Ty.at (.pr (.int .i64) (.pr (.int .u32) (.pr (.int .i64) (.pr (.int .i64) (.pr (.int .i64) (.int .i64)))))) x10 x1.toNat).2).1, (((Ty.at (.pr (.int .i64) (.pr (.int .u32) (.pr (.int .i64) (.pr (.int .i64) (.pr (.int .i64) (.int .i64)))))) x10 x1.toNat).2).2).1, x6, (((((Ty.at (.pr (.int .i64) (.pr (.int .u32) (.pr (.int .i64) (.pr (.int .i64) (.pr (.int .i64) (.int .i64)))))) x10 x1.toNat).2).2).2).2).1, (((((Ty.at (.pr (.int .i64) (.pr (.int .u32) (.pr (.int .i64) (.pr (.int .i64) (.pr (.int .i64) (.int .i64)))))) x10 x1.toNat).2).2).2).2).2))
                  else none))
              else none)
        else 
          (bif decide (x1.toNat < x5.length) then 
            ((self_split (((((Ty.at (.pr (.int .i64) (.pr (.int .u32) (.pr (.int .i64) (.pr (.int .i64) (.pr (.int .i64) (.int .i64)))))) x5 x1.toNat).2).2).1, x2), (x3, x4), x5)).bind fun ((x11, x12), (x13, x14), x15) => 
              (bif decide (x1.toNat < x15.length) then some ((x11, x1), (x13, x14), x15.set x1.toNat ((Ty.at (.pr (.int .i64) (.pr (.int .u32) (.pr (.int .i64) (.pr (.int .i64) (.pr (.int .i64) (.int .i64)))))) x15 x1.toNat).1, ((Ty.at (.pr (.int .i64) (.pr (.int .u32) (.pr (.int .i64) (.pr (.int .i64) (.pr (.int .i64) (.int .i64)))))) x15 x1.toNat).2).1, x12, ((((Ty.at (.pr (.int .i64) (.pr (.int .u32) (.pr (.int .i64) (.pr (.int .i64) (.pr (.int .i64) (.int .i64)))))) x15 x1.toNat).2).2).2).1, (((((Ty.at (.pr (.int .i64) (.pr (.int .u32) (.pr (.int .i64) (.pr (.int .i64) (.pr (.int .i64) (.int .i64)))))) x15 x1.toNat).2).2).2).2).1, (((((Ty.at (.pr (.int .i64) (.pr (.int .u32) (.pr (.int .i64) (.pr (.int .i64) (.pr (.int .i64) (.int .i64)))))) x15 x1.toNat).2).2).2).2).2))
                else none))
            else none))
        else none)
      else none)
def split : ((Int × Int) × (Int × Int) × List (Int × Int × Int × Int × Int × Int)) → Option ((Int × Int) × (Int × Int) × List (Int × Int × Int × Int × Int × Int)) := FIX fun g => split_g LOOPx g
theorem split_ok : FnOK Go.Proofs.Try.prog fn_split sg_split split := fn_rec (by kernel_rfl) fun g hg => fn_of (P := Go.Proofs.Try.prog) (f := fn_split) (sg := sg_split) (sgs := [(fn_split, sg_split)]) (Gd := fun LP gs => split_g LP gs.1) (hn := []) (h := []) (g, ()) ⟨hg, trivial⟩ (by kernel_rfl) (by kernel_rfl)
abbrev fn_insert : FuncId := 28
def sg_insert : Sig := ⟨⟨[(0, .pt 0 0), (1, .it .i64), (2, .it .i64)], [.va [.gr 1, .it .i64, .it .i64], .gs true (.pr (.int .i64) (.pr (.int .u32) (.pr (.int .i64) (.pr (.int .i64) (.pr (.int .i64) (.int .i64))))))]⟩, [⟨[(0, .it .i64)], [.va [.gr 1, .it .i64, .it .i64], .gs true (.pr (.int .i64) (.pr (.int .u32) (.pr (.int .i64) (.pr (.int .i64) (.pr (.int .i64) (.int .i64))))))]⟩]⟩
def insert_g (LP : LPT) (self_insert : ((Int × Int) × (Int × Int) × List (Int × Int × Int × Int × Int × Int)) → Option (Int × (Int × Int) × List (Int × Int × Int × Int × Int × Int))) (treap_above : ((Int × Int × Int × Int × Int × Int) × Int × Int × Int × Int × Int × Int) → Option (Bool)) (split : ((Int × Int) × (Int × Int) × List (Int × Int × Int × Int × Int × Int)) → Option ((Int × Int) × (Int × Int) × List (Int × Int × Int × Int × Int × Int))) : ((Int × Int) × (Int × Int) × List (Int × Int × Int × Int × Int × Int)) → Option (Int × (Int × Int) × List (Int × Int × Int × Int × Int × Int)) := fun ((x1, x2), (x3, x4), x5) =>
  Option.bind (α := ((Int × Int × Bool) × (Int × Int) × List (Int × Int × Int × Int × Int × Int)) ⊕ (Int × (Int × Int) × List (Int × Int × Int × Int × Int × Int))) (β := Int × (Int × Int) × List (Int × Int × Int × Int × Int × Int)) (bif !(decide (x1 = (-1))) then 
        (bif decide (0 ≤ x2) && decide (x2 < (x5.length : Int)) then 
          (bif decide (x2.toNat < x5.length) then 
            (bif decide (0 ≤ x1) && decide (x1 < (x5.length : Int)) then 
              (bif decide (x1.toNat < x5.length) then 
                ((treap_above (((Ty.at (.pr (.int .i64) (.pr (.int .u32) (.pr (.int .i64) (.pr (.int .i64) (.pr (.int .i64) (.int .i64)))))) x5 x2.toNat).1, ((Ty.at (.pr (.int .i64) (.pr (.int .u32) (.pr (.int .i64) (.pr (.int .i64) (.pr (.int .i64) (.int .i64)))))) x5 x2.toNat).2).1, (((Ty.at (.pr (.int .i64) (.pr (.int .u32) (.pr (.int .i64) (.pr (.int .i64) (.pr (.int .i64) (.int .i64)))))) x5 x2.toNat).2).2).1, ((((Ty.at (.pr (.int .i64) (.pr (.int .u32) (.pr (.int .i64) (.pr (.int .i64) (.pr (.int .i64) (.int .i64)))))) x5 x2.toNat).2).2).2).1, (((((Ty.at (.pr (.int .i64) (.pr (.int .u32) (.pr (.int .i64) (.pr (.int .i64) (.pr (.int .i64) (.int .i64)))))) x5 x2.toNat).2).2).2).2).1, (((((Ty.at (.pr (.int .i64) (.pr (.int .u32) (.pr (.int .i64) (.pr (.int .i64) (.pr (.int .i64) (.int .i64)))))) x5 x2.toNat).2).2).2).2).2), (Ty.at (.pr (.int .i64) (.pr (.int .u32) (.pr (.int .i64) (.pr (.int .i64) (.pr (.int .i64) (.int .i64)))))) x5 x1.toNat).1, ((Ty.at (.pr (.int .i64) (.pr (.int .u32) (.pr (.int .i64) (.pr (.int .i64) (.pr (.int .i64) (.int .i64)))))) x5 x1.toNat).2).1, (((Ty.at (.pr (.int .i64) (.pr (.int .u32) (.pr (.int .i64) (.pr (.int .i64) (.pr (.int .i64) (.int .i64)))))) x5 x1.toNat).2).2).1, ((((Ty.at (.pr (.int .i64) (.pr (.int .u32) (.pr (.int .i64) (.pr (.int .i64) (.pr (.int .i64) (.int .i64)))))) x5 x1.toNat).2).2).2).1, (((((Ty.at (.pr (.int .i64) (.pr (.int .u32) (.pr (.int .i64) (.pr (.int .i64) (.pr (.int .i64) (.int .i64)))))) x5 x1.toNat).2).2).2).2).1, (((((Ty.at (.pr (.int .i64) (.pr (.int .u32) (.pr (.int .i64) (.pr (.int .i64) (.pr (.int .i64) (.int .i64)))))) x5 x1.toNat).2).2).2).2).2)).bind fun x6 => some (.inl ((x1, x2, x6), (x3, x4), x5)))
                else none)
              else none)
            else none)
          else none)
    else some (.inl ((x1, x2, true), (x3, x4), x5)))
    fun z => match z with
    | .inl ((x7, x8, x9), (x10, x11), x12) => bif x9 then 
          (bif decide (0 ≤ x8) && decide (x8 < (x12.length : Int)) then 
            (bif decide (x8.toNat < x12.length) then 
              ((split ((x7, (Ty.at (.pr (.int .i64) (.pr (.int .u32) (.pr (.int .i64) (.pr (.int .i64) (.pr (.int .i64) (.int .i64)))))) x12 x8.toNat).1), (x10, x11), x12)).bind fun ((x13, x14), (x15, x16), x17) => 
                (bif decide (0 ≤ x8) && decide (x8 < (x17.length : Int)) then 
                  (bif decide (x8.toNat < x17.length) then 
                    (bif decide (0 ≤ x8) && decide (x8 < ((x17.set x8.toNat ((Ty.at (.pr (.int .i64) (.pr (.int .u32) (.pr (.int .i64) (.pr (.int .i64) (.pr (.int .i64) (.int .i64)))))) x17 x8.toNat).1, ((Ty.at (.pr (.int .i64) (.pr (.int .u32) (.pr (.int .i64) (.pr (.int .i64) (.pr (.int .i64) (.int .i64)))))) x17 x8.toNat).2).1, x13, ((((Ty.at (.pr (.int .i64) (.pr (.int .u32) (.pr (.int .i64) (.pr (.int .i64) (.pr (.int .i64) (.int .i64)))))) x17 x8.toNat).2).2).2).1, (((((Ty.at (.pr (.int .i64) (.pr (.int .u32) (.pr (.int .i64) (.pr (.int .i64) (.pr (.int .i64) (.int .i64)))))) x17 x8.toNat).2).2).2).2).1, (((((Ty.at (.pr (.int .i64) (.pr (.int .u32) (.pr (.int .i64) (.pr (.int .i64) (.pr (.int .i64) (.int .i64)))))) x17 x8.toNat).2).2).2).2).2)).length : Int)) then 
                      (bif decide (x8.toNat < (x17.set x8.toNat ((Ty.at (.pr (.int .i64) (.pr (.int .u32) (.pr (.int .i64) (.pr (.int .i64) (.pr (.int .i64) (.int .i64)))))) x17 x8.toNat).1, ((Ty.at (.pr (.int .i64) (.pr (.int .u32) (.pr (.int .i64) (.pr (.int .i64) (.pr (.int .i64) (.int .i64)))))) x17 x8.toNat).2).1, x13, ((((Ty.at (.pr (.int .i64) (.pr (.int .u32) (.pr (.int .i64) (.pr (.int .i64) (.pr (.int .i64) (.int .i64)))))) x17 x8.toNat).2).2).2).1, (((((Ty.at (.pr (.int .i64) (.pr (.int .u32) (.pr (.int .i64) (.pr (.int .i64) (.pr (.int .i64) (.int .i64)))))) x17 x8.toNat).2).2).2).2).1, (((((Ty.at (.pr (.int .i64) (.pr (.int .u32) (.pr (.int .i64) (.pr (.int .i64) (.pr (.int .i64) (.int .i64)))))) x17 x8.toNat).2).2).2).2).2)).length) then some (x8, (x15, x16), (x17.set x8.toNat ((Ty.at (.pr (.int .i64) (.pr (.int .u32) (.pr (.int .i64) (.pr (.int .i64) (.pr (.int .i64) (.int .i64)))))) x17 x8.toNat).1, ((Ty.at (.pr (.int .i64) (.pr (.int .u32) (.pr (.int .i64) (.pr (.int .i64) (.pr (.int .i64) (.int .i64)))))) x17 x8.toNat).2).1, x13, ((((Ty.at (.pr (.int .i64) (.pr (.int .u32) (.pr (.int .i64) (.pr (.int .i64) (.pr (.int .i64) (.int .i64)))))) x17 x8.toNat).2).2).2).1, (((((Ty.at (.pr (.int .i64) (.pr (.int .u32) (.pr (.int .i64) (.pr (.int .i64) (.pr (.int .i64) (.int .i64)))))) x17 x8.toNat).2).2).2).2).1, (((((Ty.at (.pr (.int .i64) (.pr (.int .u32) (.pr (.int .i64) (.pr (.int .i64) (.pr (.int .i64) (.int .i64)))))) x17 x8.toNat).2).2).2).2).2)).set x8.toNat ((Ty.at (.pr (.int .i64) (.pr (.int .u32) (.pr (.int .i64) (.pr (.int .i64) (.pr (.int .i64) (.int .i64)))))) (x17.set x8.toNat ((Ty.at (.pr (.int .i64) (.pr (.int .u32) (.pr (.int .i64) (.pr (.int .i64) (.pr (.int .i64) (.int .i64)))))) x17 x8.toNat).1, ((Ty.at (.pr (.int .i64) (.pr (.int .u32) (.pr (.int .i64) (.pr (.int .i64) (.pr (.int .i64) (.int .i64)))))) x17 x8.toNat).2).1, x13, ((((Ty.at (.pr (.int .i64) (.pr (.int .u32) (.pr (.int .i64) (.pr (.int .i64) (.pr (.int .i64) (.int .i64)))))) x17 x8.toNat).2).2).2).1, (((((Ty.at (.pr (.int .i64) (.pr (.int .u32) (.pr (.int .i64) (.pr (.int .i64) (.pr (.int .i64) (.int .i64)))))) x17 x8.toNat).2).2).2).2).1, (((((Ty.at (.pr (.int .i64) (.pr (.int .u32) (.pr (.int .i64) (.pr (.int .i64) (.pr (.int .i64) (.int .i64)))))) x17 x8.toNat).2).2).2).2).2)) x8.toNat).1, ((Ty.at (.pr (.int .i64) (.pr (.int .u32) (.pr (.int .i64) (.pr (.int .i64) (.pr (.int .i64) (.int .i64)))))) (x17.set x8.toNat ((Ty.at (.pr (.int .i64) (.pr (.int .u32) (.pr (.int .i64) (.pr (.int .i64) (.pr (.int .i64) (.int .i64)))))) x17 x8.toNat).1, ((Ty.at (.pr (.int .i64) (.pr (.int .u32) (.pr (.int .i64) (.pr (.int .i64) (.pr (.int .i64) (.int .i64)))))) x17 x8.toNat).2).1, x13, ((((Ty.at (.pr (.int .i64) (.pr (.int .u32) (.pr (.int .i64) (.pr (.int .i64) (.pr (.int .i64) (.int .i64)))))) x17 x8.toNat).2).2).2).1, (((((Ty.at (.pr (.int .i64) (.pr (.int .u32) (.pr (.int .i64) (.pr (.int .i64) (.pr (.int .i64) (.int .i64)))))) x17 x8.toNat).2).2).2).2).1, (((((Ty.at (.pr (.int .i64) (.pr (.int .u32) (.pr (.int .i64) (.pr (.int .i64) (.pr (.int .i64) (.int .i64)))))) x17 x8.toNat).2).2).2).2).2)) x8.toNat).2).1, (((Ty.at (.pr (.int .i64) (.pr (.int .u32) (.pr (.int .i64) (.pr (.int .i64) (.pr (.int .i64) (.int .i64)))))) (x17.set x8.toNat ((Ty.at (.pr (.int .i64) (.pr (.int .u32) (.pr (.int .i64) (.pr (.int .i64) (.pr (.int .i64) (.int .i64)))))) x17 x8.toNat).1, ((Ty.at (.pr (.int .i64) (.pr (.int .u32) (.pr (.int .i64) (.pr (.int .i64) (.pr (.int .i64) (.int .i64)))))) x17 x8.toNat).2).1, x13, ((((Ty.at (.pr (.int .i64) (.pr (.int .u32) (.pr (.int .i64) (.pr (.int .i64) (.pr (.int .i64) (.int .i64)))))) x17 x8.toNat).2).2).2).1, (((((Ty.at (.pr (.int .i64) (.pr (.int .u32) (.pr (.int .i64) (.pr (.int .i64) (.pr (.int .i64) (.int .i64)))))) x17 x8.toNat).2).2).2).2).1, (((((Ty.at (.pr (.int .i64) (.pr (.int .u32) (.pr (.int .i64) (.pr (.int .i64) (.pr (.int .i64) (.int .i64)))))) x17 x8.toNat).2).2).2).2).2)) x8.toNat).2).2).1, x14, (((((Ty.at (.pr (.int .i64) (.pr (.int .u32) (.pr (.int .i64) (.pr (.int .i64) (.pr (.int .i64) (.int .i64)))))) (x17.set x8.toNat ((Ty.at (.pr (.int .i64) (.pr (.int .u32) (.pr (.int .i64) (.pr (.int .i64) (.pr (.int .i64) (.int .i64)))))) x17 x8.toNat).1, ((Ty.at (.pr (.int .i64) (.pr (.int .u32) (.pr (.int .i64) (.pr (.int .i64) (.pr (.int .i64) (.int .i64)))))) x17 x8.toNat).2).1, x13, ((((Ty.at (.pr (.int .i64) (.pr (.int .u32) (.pr (.int .i64) (.pr (.int .i64) (.pr (.int .i64) (.int .i64)))))) x17 x8.toNat).2).2).2).1, (((((Ty.at (.pr (.int .i64) (.pr (.int .u32) (.pr (.int .i64) (.pr (.int .i64) (.pr (.int .i64) (.int .i64)))))) x17 x8.toNat).2).2).2).2).1, (((((Ty.at (.pr (.int .i64) (.pr (.int .u32) (.pr (.int .i64) (.pr (.int .i64) (.pr (.int .i64) (.int .i64)))))) x17 x8.toNat).2).2).2).2).2)) x8.toNat).2).2).2).2).1, (((((Ty.at (.pr (.int .i64) (.pr (.int .u32) (.pr (.int .i64) (.pr (.int .i64) (.pr (.int .i64) (.int .i64)))))) (x17.set x8.toNat ((Ty.at (.pr (.int .i64) (.pr (.int .u32) (.pr (.int .i64) (.pr (.int .i64) (.pr (.int .i64) (.int .i64)))))) x17 x8.toNat).1, ((Ty.at (.pr (.int .i64) (.pr (.int .u32) (.pr (.int .i64) (.pr (.int .i64) (.pr (.int .i64) (.int .i64)))))) x17 x8.toNat).2).1, x13, ((((Ty.at (.pr (.int .i64) (.pr (.int .u32) (.pr (.int .i64) (.pr (.int .i64) (.pr (.int .i64) (.int .i64)))))) x17 x8.toNat).2).2).2).1, (((((Ty.at (.pr (.int .i64) (.pr (.int .u32) (.pr (.int .i64) (.pr (.int .i64) (.pr (.int .i64) (.int .i64)))))) x17 x8.toNat).2).2).2).2).1, (((((Ty.at (.pr (.int .i64) (.pr (.int .u32) (.pr (.int .i64) (.pr (.int .i64) (.pr (.int .i64) (.int .i64)))))) x17 x8.toNat).2).2).2).2).2)) x8.toNat).2).2).2).2).2))
                        else none)
                      else none)
                    else none)
                  else none))
              else none)
            else none)
      else 
        (bif decide (0 ≤ x7) && decide (x7 < (x12.length : Int)) then 
          (bif decide (0 ≤ x8) && decide (x8 < (x12.length : Int)) then 
            (bif decide (x8.toNat < x12.length) then 
              (bif decide (x7.toNat < x12.length) then 
                (bif decide (((Ty.at (.pr (.int .i64) (.pr (.int .u32) (.pr (.int .i64) (.pr (.int .i64) (.pr (.int .i64) (.int .i64)))))) x12 x8.toNat).1) < ((Ty.at (.pr (.int .i64) (.pr (.int .u32) (.pr (.int .i64) (.pr (.int .i64) (.pr (.int .i64) (.int .i64)))))) x12 x7.toNat).1)) then 
                    (bif decide (x7.toNat < x12.length) then 
                      ((self_insert (((((Ty.at (.pr (.int .i64) (.pr (.int .u32) (.pr (.int .i64) (.pr (.int .i64) (.pr (.int .i64) (.int .i64)))))) x12 x7.toNat).2).2).1, x8), (x10, x11), x12)).bind fun (x18, (x19, x20), x21) => 
                        (bif decide (x7.toNat < x21.length) then some (x7, (x19, x20), x21.set x7.toNat ((Ty.at (.pr (.int .i64) (.pr (.int .u32) (.pr (.int .i64) (.pr (.int .i64) (.pr (.int .i64) (.int .i64)))))) x21 x7.toNat).1, ((Ty.at (.pr (.int .i64) (.pr (.int .u32) (.pr (.int .i64) (.pr (.int .i64) (.pr (.int .i64) (.int .i64)))))) x21 x7.toNat).2).1, x18, ((((Ty.at (.pr (.int .i64) (.pr (.int .u32) (.pr (.int .i64) (.pr (.int .i64) (.pr (.int .i64) (.int .i64)))))) x21 x7.toNat).2).2).2).1, (((((Ty.at (.pr (.int .i64) (.pr (.int .u32) (.pr (.int .i64) (.pr (.int .i64) (.pr (.int .i64) (.int .i64)))))) x21 x7.toNat).2).2).2).2).1, (((((Ty.at (.pr (.int .i64) (.pr (.int .u32) (.pr (.int .i64) (.pr (.int .i64) (.pr (.int .i64) (.int .i64)))))) x21 x7.toNat).2).2).2).2).2))
                          else none))
                      else none)
                else 
                  (bif decide (x7.toNat < x12.length) then 
                    ((self_insert ((((((Ty.at (.pr (.int .i64) (.pr (.int .u32) (.pr (.int .i64) (.pr (.int .i64) (.pr (.int .i64) (.int .i64)))))) x12 x7.toNat).2).2).2).1, x8), (x10, x11), x12)).bind fun (x22, (x23, x24), x25) => 
                      (bif decide (x7.toNat < x25.length) then some (x7, (x23, x24), x25.set x7.toNat ((Ty.at (.pr (.int .i64) (.pr (.int .u32) (.pr (.int .i64) (.pr (.int .i64) (.pr (.int .i64) (.int .i64)))))) x25 x7.toNat).1, ((Ty.at (.pr (.int .i64) (.pr (.int .u32) (.pr (.int .i64) (.pr (.int .i64) (.pr (.int .i64) (.int .i64)))))) x25 x7.toNat).2).1, (((Ty.at (.pr (.int .i64) (.pr (.int .u32) (.pr (.int .i64) (.pr (.int .i64) (.pr (.int .i64) (.int .i64)))))) x25 x7.toNat).2).2).1, x22, (((((Ty.at (.pr (.int .i64) (.pr (.int .u32) (.pr (.int .i64) (.pr (.int .i64) (.pr (.int .i64) (.int .i64)))))) x25 x7.toNat).2).2).2).2).1, (((((Ty.at (.pr (.int .i64) (.pr (.int .u32) (.pr (.int .i64) (.pr (.int .i64) (.pr (.int .i64) (.int .i64)))))) x25 x7.toNat).2).2).2).2).2))
                        else none))
                    else none))
                else none)
              else none)
            else none)
          else none)
    | .inr o => some o
def insert : ((Int × Int) × (Int × Int) × List (Int × Int × Int × Int × Int × Int)) → Option (Int × (Int × Int) × List (Int × Int × Int × Int × Int × Int)) := FIX fun g => insert_g LOOPx g treap_above split
theorem insert_ok : FnOK Go.Proofs.Try.prog fn_insert sg_insert insert := fn_rec (by kernel_rfl) fun g hg => fn_of (P := Go.Proofs.Try.prog) (f := fn_insert) (sg := sg_insert) (sgs := [(fn_insert, sg_insert), (fn_treap_above, sg_treap_above), (fn_split, sg_split)]) (Gd := fun LP gs => insert_g LP gs.1 gs.2.1 gs.2.2.1) (hn := []) (h := [(4, true, ⟨[(0, .pt 0 0), (1, .it .i64), (2, .it .i64), (28, .bo)], [.va [.gr 1, .it .i64, .it .i64], .gs true (.pr (.int .i64) (.pr (.int .u32) (.pr (.int .i64) (.pr (.int .i64) (.pr (.int .i64) (.int .i64))))))]⟩)]) (g, treap_above, split, ()) ⟨hg, treap_above_ok, split_ok, trivial⟩ (by kernel_rfl) (by kernel_rfl)
abbrev fn_merge : FuncId := 45
def sg_merge : Sig := ⟨⟨[(0, .pt 0 0), (1, .it .i64), (2, .it .i64)], [.va [.gr 1, .it .i64, .it .i64], .gs true (.pr (.int .i64) (.pr (.int .u32) (.pr (.int .i64) (.pr (.int .i64) (.pr (.int .i64) (.int .i64))))))]⟩, [⟨[(0, .it .i64)], [.va [.gr 1, .it .i64, .it .i64], .gs true (.pr (.int .i64) (.pr (.int .u32) (.pr (.int .i64) (.pr (.int .i64) (.pr (.int .i64) (.int .i64))))))]⟩]⟩
def merge_g (LP : LPT) (self_merge : ((Int × Int) × (Int × Int) × List (Int × Int × Int × Int × Int × Int)) → Option (Int × (Int × Int) × List (Int × Int × Int × Int × Int × Int))) (treap_above : ((Int × Int × Int × Int × Int × Int) × Int × Int × Int × Int × Int × Int) → Option (Bool)) : ((Int × Int) × (Int × Int) × List (Int × Int × Int × Int × Int × Int)) → Option (Int × (Int × Int) × List (Int × Int × Int × Int × Int × Int)) := fun ((x1, x2), (x3, x4), x5) =>
  bif decide (x1 = (-1)) then some (x2, (x3, x4), x5)
  else 
    (bif decide (x2 = (-1)) then some (x1, (x3, x4), x5)
    else 
      (bif decide (0 ≤ x1) && decide (x1 < (x5.length : Int)) then 
        (bif decide (x1.toNat < x5.length) then 
          (bif decide (0 ≤ x2) && decide (x2 < (x5.length : Int)) then 
            (bif decide (x2.toNat < x5.length) then 
              ((treap_above (((Ty.at (.pr (.int .i64) (.pr (.int .u32) (.pr (.int .i64) (.pr (.int .i64) (.pr (.int .i64) (.int .i64)))))) x5 x1.toNat).1, ((Ty.at (.pr (.int .i64) (.pr (.int .u32) (.pr (.int .i64) (.pr (.int .i64) (.pr (.int .i64) (.int .i64)))))) x5 x1.toNat).2).1, (((Ty.at (.pr (.int .i64) (.pr (.int .u32) (.pr (.int .i64) (.pr (.int .i64) (.pr (.int .i64) (.int .i64)))))) x5 x1.toNat).2).2).1, ((((Ty.at (.pr (.int .i64) (.pr (.int .u32) (.pr (.int .i64) (.pr (.int .i64) (.pr (.int .i64) (.int .i64)))))) x5 x1.toNat).2).2).2).1, (((((Ty.at (.pr (.int .i64) (.pr (.int .u32) (.pr (.int .i64) (.pr (.int .i64) (.pr (.int .i64) (.int .i64)))))) x5 x1.toNat).2).2).2).2).1, (((((Ty.at (.pr (.int .i64) (.pr (.int .u32) (.pr (.int .i64) (.pr (.int .i64) (.pr (.int .i64) (.int .i64)))))) x5 x1.toNat).2).2).2).2).2), (Ty.at (.pr (.int .i64) (.pr (.int .u32) (.pr (.int .i64) (.pr (.int .i64) (.pr (.int .i64) (.int .i64)))))) x5 x2.toNat).1, ((Ty.at (.pr (.int .i64) (.pr (.int .u32) (.pr (.int .i64) (.pr (.int .i64) (.pr (.int .i64) (.int .i64)))))) x5 x2.toNat).2).1, (((Ty.at (.pr (.int .i64) (.pr (.int .u32) (.pr (.int .i64) (.pr (.int .i64) (.pr (.int .i64) (.int .i64)))))) x5 x2.toNat).2).2).1, ((((Ty.at (.pr (.int .i64) (.pr (.int .u32) (.pr (.int .i64) (.pr (.int .i64) (.pr (.int .i64) (.int .i64)))))) x5 x2.toNat).2).2).2).1, (((((Ty.at (.pr (.int .i64) (.pr (.int .u32) (.pr (.int .i64) (.pr (.int .i64) (.pr (.int .i64) (.int .i64)))))) x5 x2.toNat).2).2).2).2).1, (((((Ty.at (.pr (.int .i64) (.pr (.int .u32) (.pr (.int .i64) (.pr (.int .i64) (.pr (.int .i64) (.int .i64)))))) x5 x2.toNat).2).2).2).2).2)).bind fun x6 => 
                (bif x6 then 
                    (bif decide (0 ≤ x1) && decide (x1 < (x5.length : Int)) then 
                      (bif decide (x1.toNat < x5.length) then 
                        ((self_merge ((((((Ty.at (.pr (.int .i64) (.pr (.int .u32) (.pr (.int .i64) (.pr (.int .i64) (.pr (.int .i64) (.int .i64)))))) x5 x1.toNat).2).2).2).1, x2), (x3, x4), x5)).bind fun (x7, (x8, x9), x10) => 
                          (bif decide (0 ≤ x1) && decide (x1 < (x10.length : Int)) then 
                            (bif decide (x1.toNat < x10.length) then some (x1, (x8, x9), x10.set x1.toNat ((Ty.at (.pr (.int .i64) (.pr (.int .u32) (.pr (.int .i64) (.pr (.int .i64) (.pr (.int .i64) (.int .i64)))))) x10 x1.toNat).1, ((Ty.at (.pr (.int .i64) (.pr (.int .u32) (.pr (.int .i64) (.pr (.int .i64) (.pr (.int .i64) (.int .i64)))))) x10 x1.toNat).2).1, (((Ty.at (.pr (.int .i64) (.pr (.int .u32) (.pr (.int .i64) (.pr (.int .i64) (.pr (.int .i64) (.int .i64)))))) x10 x1.toNat).2).2).1, x7, (((((Ty.at (.pr (.int .i64) (.pr (.int .u32) (.pr (.int .i64) (.pr (.int .i64) (.pr (.int .i64) (.int .i64)))))) x10 x1.toNat).2).2).2).2).1, (((((Ty.at (.pr (.int .i64) (.pr (.int .u32) (.pr (.int .i64) (.pr (.int .i64) (.pr (.int .i64) (.int .i64)))))) x10 x1.toNat).2).2).2).2).2))
                              else none)
                            else none))
                        else none)
                      else none)
                else 
                  (bif decide (0 ≤ x2) && decide (x2 < (x5.length : Int)) then 
                    (bif decide (x2.toNat < x5.length) then 
                      ((self_merge ((x1, (((Ty.at (.pr (.int .i64) (.pr (.int .u32) (.pr (.int .i64) (.pr (.int .i64) (.pr (.int .i64) (.int .i64)))))) x5 x2.toNat).2).2).1), (x3, x4), x5)).bind fun (x11, (x12, x13), x14) => 
                        (bif decide (0 ≤ x2) && decide (x2 < (x14.length : Int)) then 
                          (bif decide (x2.toNat < x14.length) then some (x2, (x12, x13), x14.set x2.toNat ((Ty.at (.pr (.int .i64) (.pr (.int .u32) (.pr (.int .i64) (.pr (.int .i64) (.pr (.int .i64) (.int .i64)))))) x14 x2.toNat).1, ((Ty.at (.pr (.int .i64) (.pr (.int .u32) (.pr (.int .i64) (.pr (.int .i64) (.pr (.int .i64) (.int .i64)))))) x14 x2.toNat).2).1, x11, ((((Ty.at (.pr (.int .i64) (.pr (.int .u32) (.pr (.int .i64) (.pr (.int .i64) (.pr (.int .i64) (.int .i64)))))) x14 x2.toNat).2).2).2).1, (((((Ty.at (.pr (.int .i64) (.pr (.int .u32) (.pr (.int .i64) (.pr (.int .i64) (.pr (.int .i64) (.int .i64)))))) x14 x2.toNat).2).2).2).2).1, (((((Ty.at (.pr (.int .i64) (.pr (.int .u32) (.pr (.int .i64) (.pr (.int .i64) (.pr (.int .i64) (.int .i64)))))) x14 x2.toNat).2).2).2).2).2))
                            else none)
                          else none))
                      else none)
                    else none)))
              else none)
            else none)
          else none)
        else none))
def merge : ((Int × Int) × (Int × Int) × List (Int × Int × Int × Int × Int × Int)) → Option (Int × (Int × Int) × List (Int × Int × Int × Int × Int × Int)) := FIX fun g => merge_g LOOPx g treap_above
theorem merge_ok : FnOK Go.Proofs.Try.prog fn_merge sg_merge merge := fn_rec (by kernel_rfl) fun g hg => fn_of (P := Go.Proofs.Try.prog) (f := fn_merge) (sg := sg_merge) (sgs := [(fn_merge, sg_merge), (fn_treap_above, sg_treap_above)]) (Gd := fun LP gs => merge_g LP gs.1 gs.2.1) (hn := []) (h := []) (g, treap_above, ()) ⟨hg, treap_above_ok, trivial⟩ (by kernel_rfl) (by kernel_rfl)
abbrev fn_without : FuncId := 32
def sg_without : Sig := ⟨⟨[(0, .pt 0 0), (1, .it .i64), (2, .it .i64)], [.va [.gr 1, .it .i64, .it .i64], .gs true (.pr (.int .i64) (.pr (.int .u32) (.pr (.int .i64) (.pr (.int .i64) (.pr (.int .i64) (.int .i64))))))]⟩, [⟨[(0, .it .i64)], [.va [.gr 1, .it .i64, .it .i64], .gs true (.pr (.int .i64) (.pr (.int .u32) (.pr (.int .i64) (.pr (.int .i64) (.pr (.int .i64) (.int .i64))))))]⟩]⟩
def without_g (LP : LPT) (self_without : ((Int × Int) × (Int × Int) × List (Int × Int × Int × Int × Int × Int)) → Option (Int × (Int × Int) × List (Int × Int × Int × Int × Int × Int))) (merge : ((Int × Int) × (Int × Int) × List (Int × Int × Int × Int × Int × Int)) → Option (Int × (Int × Int) × List (Int × Int × Int × Int × Int × Int))) : ((Int × Int) × (Int × Int) × List (Int × Int × Int × Int × Int × Int)) → Option (Int × (Int × Int) × List (Int × Int × Int × Int × Int × Int)) := fun ((x1, x2), (x3, x4), x5) =>
  bif decide (0 ≤ x1) && decide (x1 < (x5.length : Int)) then 
    (bif decide (0 ≤ x2) && decide (x2 < (x5.length : Int)) then 
      (bif decide (x2.toNat < x5.length) then 
        (bif decide (x1.toNat < x5.length) then 
          (bif decide (((Ty.at (.pr (.int .i64) (.pr (.int .u32) (.pr (.int .i64) (.pr (.int .i64) (.pr (.int .i64) (.int .i64)))))) x5 x2.toNat).1) < ((Ty.at (.pr (.int .i64) (.pr (.int .u32) (.pr (.int .i64) (.pr (.int .i64) (.pr (.int .i64) (.int .i64)))))) x5 x1.toNat).1)) then 
              (bif decide (x1.toNat < x5.length) then 
                ((self_without (((((Ty.at (.pr (.int .i64) (.pr (.int .u32) (.pr (.int .i64) (.pr (.int .i64) (.pr (.int .i64) (.int .i64)))))) x5 x1.toNat).2).2).1, x2), (x3, x4), x5)).bind fun (x6, (x7, x8), x9) => 
                  (bif decide (x1.toNat < x9.length) then some (x1, (x7, x8), x9.set x1.toNat ((Ty.at (.pr (.int .i64) (.pr (.int .u32) (.pr (.int .i64) (.pr (.int .i64) (.pr (.int .i64) (.int .i64)))))) x9 x1.toNat).1, ((Ty.at (.pr (.int .i64) (.pr (.int .u32) (.pr (.int .i64) (.pr (.int .i64) (.pr (.int .i64) (.int .i64)))))) x9 x1.toNat).2).1, x6, ((((Ty.at (.pr (.int .i64) (.pr (.int .u32) (.pr (.int .i64) (.pr (.int .i64) (.pr (.int .i64) (.int .i64)))))) x9 x1.toNat).2).2).2).1, (((((Ty.at (.pr (.int .i64) (.pr (.int .u32) (.pr (.int .i64) (.pr (.int .i64) (.pr (.int .i64) (.int .i64)))))) x9 x1.toNat).2).2).2).2).1, (((((Ty.at (.pr (.int .i64) (.pr (.int .u32) (.pr (.int .i64) (.pr (.int .i64) (.pr (.int .i64) (.int .i64)))))) x9 x1.toNat).2).2).2).2).2))
                    else none))
                else none)
          else 
            (bif decide (x1.toNat < x5.length) then 
              (bif decide (((Ty.at (.pr (.int .i64) (.pr (.int .u32) (.pr (.int .i64) (.pr (.int .i64) (.pr (.int .i64) (.int .i64)))))) x5 x1.toNat).1) < ((Ty.at (.pr (.int .i64) (.pr (.int .u32) (.pr (.int .i64) (.pr (.int .i64) (.pr (.int .i64) (.int .i64)))))) x5 x2.toNat).1)) then 
                  (bif decide (x1.toNat < x5.length) then 
                    ((self_without ((((((Ty.at (.pr (.int .i64) (.pr (.int .u32) (.pr (.int .i64) (.pr (.int .i64) (.pr (.int .i64) (.int .i64)))))) x5 x1.toNat).2).2).2).1, x2), (x3, x4), x5)).bind fun (x10, (x11, x12), x13) => 
                      (bif decide (x1.toNat < x13.length) then some (x1, (x11, x12), x13.set x1.toNat ((Ty.at (.pr (.int .i64) (.pr (.int .u32) (.pr (.int .i64) (.pr (.int .i64) (.pr (.int .i64) (.int .i64)))))) x13 x1.toNat).1, ((Ty.at (.pr (.int .i64) (.pr (.int .u32) (.pr (.int .i64) (.pr (.int .i64) (.pr (.int .i64) (.int .i64)))))) x13 x1.toNat).2).1, (((Ty.at (.pr (.int .i64) (.pr (.int .u32) (.pr (.int .i64) (.pr (.int .i64) (.pr (.int .i64) (.int .i64)))))) x13 x1.toNat).2).2).1, x10, (((((Ty.at (.pr (.int .i64) (.pr (.int .u32) (.pr (.int .i64) (.pr (.int .i64) (.pr (.int .i64) (.int .i64)))))) x13 x1.toNat).2).2).2).2).1, (((((Ty.at (.pr (.int .i64) (.pr (.int .u32) (.pr (.int .i64) (.pr (.int .i64) (.pr (.int .i64) (.int .i64)))))) x13 x1.toNat).2).2).2).2).2))
                        else none))
                    else none)
              else 
                (bif decide (x1.toNat < x5.length) then 
                  (bif decide (x1.toNat < x5.length) then 
                    ((merge (((((Ty.at (.pr (.int .i64) (.pr (.int .u32) (.pr (.int .i64) (.pr (.int .i64) (.pr (.int .i64) (.int .i64)))))) x5 x1.toNat).2).2).1, ((((Ty.at (.pr (.int .i64) (.pr (.int .u32) (.pr (.int .i64) (.pr (.int .i64) (.pr (.int .i64) (.int .i64)))))) x5 x1.toNat).2).2).2).1), (x3, x4), x5)).bind fun (x14, (x15, x16), x17) => some (x14, (x15, x16), x17))
                    else none)
                  else none))
              else none))
          else none)
        else none)
      else none)
    else none
def without : ((Int × Int) × (Int × Int) × List (Int × Int × Int × Int × Int × Int)) → Option (Int × (Int × Int) × List (Int × Int × Int × Int × Int × Int)) := FIX fun g => without_g LOOPx g merge
theorem without_ok : FnOK Go.Proofs.Try.prog fn_without sg_without without := fn_rec (by kernel_rfl) fun g hg => fn_of (P := Go.Proofs.Try.prog) (f := fn_without) (sg := sg_without) (sgs := [(fn_without, sg_without), (fn_merge, sg_merge)]) (Gd := fun LP gs => without_g LP gs.1 gs.2.1) (hn := []) (h := []) (g, merge, ()) ⟨hg, merge_ok, trivial⟩ (by kernel_rfl) (by kernel_rfl)
abbrev fn_treap_Insert : FuncId := 9
def sg_treap_Insert : Sig := ⟨⟨[(0, .ag [.vs 0 (.pr (.int .i64) (.pr (.int .u32) (.pr (.int .i64) (.pr (.int .i64) (.pr (.int .i64) (.int .i64)))))), .it .i64, .it .i64]), (1, .it .i64), (2, .it .u32)], []⟩, [⟨[(0, .ag [.vs 0 (.pr (.int .i64) (.pr (.int .u32) (.pr (.int .i64) (.pr (.int .i64) (.pr (.int .i64) (.int .i64)))))), .it .i64, .it .i64]), (1, .it .i64), (2, .it .i64)], []⟩]⟩
def treap_Insert_g (LP : LPT) (treap_empty : Int → Option (Int × Int × Int × Int × Int × Int)) (treap_Right : ((List (Int × Int × Int × Int × Int × Int)) × Int × Int) → Option (Bool)) (treap_Find : (((List (Int × Int × Int × Int × Int × Int)) × Int × Int) × Int) → Option (Int × Int × Bool)) (treap_own : ((List (Int × Int × Int × Int × Int × Int)) × Int × Int) → Option ((Int × Int) × List (Int × Int × Int × Int × Int × Int))) (insert : ((Int × Int) × (Int × Int) × List (Int × Int × Int × Int × Int × Int)) → Option (Int × (Int × Int) × List (Int × Int × Int × Int × Int × Int))) : (((List (Int × Int × Int × Int × Int × Int)) × Int × Int) × Int × Int) → Option (((List (Int × Int × Int × Int × Int × Int)) × Int × Int) × Int × Int) := fun ((x1, x2, x3), x4, x5) =>
  bif !(decide (x4 < (0 : Int))) then 
      ((treap_Right (x1, x2, x3)).bind fun x6 => 
        (bif !x6 then some ((x1, x2, x3), 0, 1)
        else 
          ((treap_Find ((x1, x2, x3), x4)).bind fun (x7, x8, x9) => 
            (bif x9 then some ((x1, x2, x3), 0, 8)
            else 
              (bif decide (x3 = (-1)) then some ((x1, x2, x3), 0, 6)
              else 
                ((treap_own (x1, x2, x3)).bind fun ((x10, x11), x12) => 
                  (bif decide (0 ≤ x11) && decide (x11 < (x12.length : Int)) then 
                    (bif decide (x11.toNat < x12.length) then 
                      ((treap_empty (-1)).bind fun (x13, x14, x15, x16, x17, x18) => 
                        (bif decide (0 ≤ x11) && decide (x11 < (x12.length : Int)) then 
                          (bif decide (x11.toNat < x12.length) then 
                            (bif decide (0 ≤ x11) && decide (x11 < ((x12.set x11.toNat (x13, x14, x15, x16, x17, x18)).length : Int)) then 
                              (bif decide (x11.toNat < (x12.set x11.toNat (x13, x14, x15, x16, x17, x18)).length) then 
                                (bif decide (0 ≤ x11) && decide (x11 < (((x12.set x11.toNat (x13, x14, x15, x16, x17, x18)).set x11.toNat (x4, ((Ty.at (.pr (.int .i64) (.pr (.int .u32) (.pr (.int .i64) (.pr (.int .i64) (.pr (.int .i64) (.int .i64)))))) (x12.set x11.toNat (x13, x14, x15, x16, x17, x18)) x11.toNat).2).1, (((Ty.at (.pr (.int .i64) (.pr (.int .u32) (.pr (.int .i64) (.pr (.int .i64) (.pr (.int .i64) (.int .i64)))))) (x12.set x11.toNat (x13, x14, x15, x16, x17, x18)) x11.toNat).2).2).1, ((((Ty.at (.pr (.int .i64) (.pr (.int .u32) (.pr (.int .i64) (.pr (.int .i64) (.pr (.int .i64) (.int .i64)))))) (x12.set x11.toNat (x13, x14, x15, x16, x17, x18)) x11.toNat).2).2).2).1, (((((Ty.at (.pr (.int .i64) (.pr (.int .u32) (.pr (.int .i64) (.pr (.int .i64) (.pr (.int .i64) (.int .i64)))))) (x12.set x11.toNat (x13, x14, x15, x16, x17, x18)) x11.toNat).2).2).2).2).1, (((((Ty.at (.pr (.int .i64) (.pr (.int .u32) (.pr (.int .i64) (.pr (.int .i64) (.pr (.int .i64) (.int .i64)))))) (x12.set x11.toNat (x13, x14, x15, x16, x17, x18)) x11.toNat).2).2).2).2).2)).length : Int)) then 
                                  (bif decide (x11.toNat < ((x12.set x11.toNat (x13, x14, x15, x16, x17, x18)).set x11.toNat (x4, ((Ty.at (.pr (.int .i64) (.pr (.int .u32) (.pr (.int .i64) (.pr (.int .i64) (.pr (.int .i64) (.int .i64)))))) (x12.set x11.toNat (x13, x14, x15, x16, x17, x18)) x11.toNat).2).1, (((Ty.at (.pr (.int .i64) (.pr (.int .u32) (.pr (.int .i64) (.pr (.int .i64) (.pr (.int .i64) (.int .i64)))))) (x12.set x11.toNat (x13, x14, x15, x16, x17, x18)) x11.toNat).2).2).1, ((((Ty.at (.pr (.int .i64) (.pr (.int .u32) (.pr (.int .i64) (.pr (.int .i64) (.pr (.int .i64) (.int .i64)))))) (x12.set x11.toNat (x13, x14, x15, x16, x17, x18)) x11.toNat).2).2).2).1, (((((Ty.at (.pr (.int .i64) (.pr (.int .u32) (.pr (.int .i64) (.pr (.int .i64) (.pr (.int .i64) (.int .i64)))))) (x12.set x11.toNat (x13, x14, x15, x16, x17, x18)) x11.toNat).2).2).2).2).1, (((((Ty.at (.pr (.int .i64) (.pr (.int .u32) (.pr (.int .i64) (.pr (.int .i64) (.pr (.int .i64) (.int .i64)))))) (x12.set x11.toNat (x13, x14, x15, x16, x17, x18)) x11.toNat).2).2).2).2).2)).length) then 
                                    ((insert ((x10, x11), (x10, (((Ty.at (.pr (.int .i64) (.pr (.int .u32) (.pr (.int .i64) (.pr (.int .i64) (.pr (.int .i64) (.int .i64)))))) x12 x11.toNat).2).2).1), ((x12.set x11.toNat (x13, x14, x15, x16, x17, x18)).set x11.toNat (x4, ((Ty.at (.pr (.int .i64) (.pr (.int .u32) (.pr (.int .i64) (.pr (.int .i64) (.pr (.int .i64) (.int .i64)))))) (x12.set x11.toNat (x13, x14, x15, x16, x17, x18)) x11.toNat).2).1, (((Ty.at (.pr (.int .i64) (.pr (.int .u32) (.pr (.int .i64) (.pr (.int .i64) (.pr (.int .i64) (.int .i64)))))) (x12.set x11.toNat (x13, x14, x15, x16, x17, x18)) x11.toNat).2).2).1, ((((Ty.at (.pr (.int .i64) (.pr (.int .u32) (.pr (.int .i64) (.pr (.int .i64) (.pr (.int .i64) (.int .i64)))))) (x12.set x11.toNat (x13, x14, x15, x16, x17, x18)) x11.toNat).2).2).2).1, (((((Ty.at (.pr (.int .i64) (.pr (.int .u32) (.pr (.int .i64) (.pr (.int .i64) (.pr (.int .i64) (.int .i64)))))) (x12.set x11.toNat (x13, x14, x15, x16, x17, x18)) x11.toNat).2).2).2).2).1, (((((Ty.at (.pr (.int .i64) (.pr (.int .u32) (.pr (.int .i64) (.pr (.int .i64) (.pr (.int .i64) (.int .i64)))))) (x12.set x11.toNat (x13, x14, x15, x16, x17, x18)) x11.toNat).2).2).2).2).2)).set x11.toNat ((Ty.at (.pr (.int .i64) (.pr (.int .u32) (.pr (.int .i64) (.pr (.int .i64) (.pr (.int .i64) (.int .i64)))))) ((x12.set x11.toNat (x13, x14, x15, x16, x17, x18)).set x11.toNat (x4, ((Ty.at (.pr (.int .i64) (.pr (.int .u32) (.pr (.int .i64) (.pr (.int .i64) (.pr (.int .i64) (.int .i64)))))) (x12.set x11.toNat (x13, x14, x15, x16, x17, x18)) x11.toNat).2).1, (((Ty.at (.pr (.int .i64) (.pr (.int .u32) (.pr (.int .i64) (.pr (.int .i64) (.pr (.int .i64) (.int .i64)))))) (x12.set x11.toNat (x13, x14, x15, x16, x17, x18)) x11.toNat).2).2).1, ((((Ty.at (.pr (.int .i64) (.pr (.int .u32) (.pr (.int .i64) (.pr (.int .i64) (.pr (.int .i64) (.int .i64)))))) (x12.set x11.toNat (x13, x14, x15, x16, x17, x18)) x11.toNat).2).2).2).1, (((((Ty.at (.pr (.int .i64) (.pr (.int .u32) (.pr (.int .i64) (.pr (.int .i64) (.pr (.int .i64) (.int .i64)))))) (x12.set x11.toNat (x13, x14, x15, x16, x17, x18)) x11.toNat).2).2).2).2).1, (((((Ty.at (.pr (.int .i64) (.pr (.int .u32) (.pr (.int .i64) (.pr (.int .i64) (.pr (.int .i64) (.int .i64)))))) (x12.set x11.toNat (x13, x14, x15, x16, x17, x18)) x11.toNat).2).2).2).2).2)) x11.toNat).1, x5, (((Ty.at (.pr (.int .i64) (.pr (.int .u32) (.pr (.int .i64) (.pr (.int .i64) (.pr (.int .i64) (.int .i64)))))) ((x12.set x11.toNat (x13, x14, x15, x16, x17, x18)).set x11.toNat (x4, ((Ty.at (.pr (.int .i64) (.pr (.int .u32) (.pr (.int .i64) (.pr (.int .i64) (.pr (.int .i64) (.int .i64)))))) (x12.set x11.toNat (x13, x14, x15, x16, x17, x18)) x11.toNat).2).1, (((Ty.at (.pr (.int .i64) (.pr (.int .u32) (.pr (.int .i64) (.pr (.int .i64) (.pr (.int .i64) (.int .i64)))))) (x12.set x11.toNat (x13, x14, x15, x16, x17, x18)) x11.toNat).2).2).1, ((((Ty.at (.pr (.int .i64) (.pr (.int .u32) (.pr (.int .i64) (.pr (.int .i64) (.pr (.int .i64) (.int .i64)))))) (x12.set x11.toNat (x13, x14, x15, x16, x17, x18)) x11.toNat).2).2).2).1, (((((Ty.at (.pr (.int .i64) (.pr (.int .u32) (.pr (.int .i64) (.pr (.int .i64) (.pr (.int .i64) (.int .i64)))))) (x12.set x11.toNat (x13, x14, x15, x16, x17, x18)) x11.toNat).2).2).2).2).1, (((((Ty.at (.pr (.int .i64) (.pr (.int .u32) (.pr (.int .i64) (.pr (.int .i64) (.pr (.int .i64) (.int .i64)))))) (x12.set x11.toNat (x13, x14, x15, x16, x17, x18)) x11.toNat).2).2).2).2).2)) x11.toNat).2).2).1, ((((Ty.at (.pr (.int .i64) (.pr (.int .u32) (.pr (.int .i64) (.pr (.int .i64) (.pr (.int .i64) (.int .i64)))))) ((x12.set x11.toNat (x13, x14, x15, x16, x17, x18)).set x11.toNat (x4, ((Ty.at (.pr (.int .i64) (.pr (.int .u32) (.pr (.int .i64) (.pr (.int .i64) (.pr (.int .i64) (.int .i64)))))) (x12.set x11.toNat (x13, x14, x15, x16, x17, x18)) x11.toNat).2).1, (((Ty.at (.pr (.int .i64) (.pr (.int .u32) (.pr (.int .i64) (.pr (.int .i64) (.pr (.int .i64) (.int .i64)))))) (x12.set x11.toNat (x13, x14, x15, x16, x17, x18)) x11.toNat).2).2).1, ((((Ty.at (.pr (.int .i64) (.pr (.int .u32) (.pr (.int .i64) (.pr (.int .i64) (.pr (.int .i64) (.int .i64)))))) (x12.set x11.toNat (x13, x14, x15, x16, x17, x18)) x11.toNat).2).2).2).1, (((((Ty.at (.pr (.int .i64) (.pr (.int .u32) (.pr (.int .i64) (.pr (.int .i64) (.pr (.int .i64) (.int .i64)))))) (x12.set x11.toNat (x13, x14, x15, x16, x17, x18)) x11.toNat).2).2).2).2).1, (((((Ty.at (.pr (.int .i64) (.pr (.int .u32) (.pr (.int .i64) (.pr (.int .i64) (.pr (.int .i64) (.int .i64)))))) (x12.set x11.toNat (x13, x14, x15, x16, x17, x18)) x11.toNat).2).2).2).2).2)) x11.toNat).2).2).2).1, (((((Ty.at (.pr (.int .i64) (.pr (.int .u32) (.pr (.int .i64) (.pr (.int .i64) (.pr (.int .i64) (.int .i64)))))) ((x12.set x11.toNat (x13, x14, x15, x16, x17, x18)).set x11.toNat (x4, ((Ty.at (.pr (.int .i64) (.pr (.int .u32) (.pr (.int .i64) (.pr (.int .i64) (.pr (.int .i64) (.int .i64)))))) (x12.set x11.toNat (x13, x14, x15, x16, x17, x18)) x11.toNat).2).1, (((Ty.at (.pr (.int .i64) (.pr (.int .u32) (.pr (.int .i64) (.pr (.int .i64) (.pr (.int .i64) (.int .i64)))))) (x12.set x11.toNat (x13, x14, x15, x16, x17, x18)) x11.toNat).2).2).1, ((((Ty.at (.pr (.int .i64) (.pr (.int .u32) (.pr (.int .i64) (.pr (.int .i64) (.pr (.int .i64) (.int .i64)))))) (x12.set x11.toNat (x13, x14, x15, x16, x17, x18)) x11.toNat).2).2).2).1, (((((Ty.at (.pr (.int .i64) (.pr (.int .u32) (.pr (.int .i64) (.pr (.int .i64) (.pr (.int .i64) (.int .i64)))))) (x12.set x11.toNat (x13, x14, x15, x16, x17, x18)) x11.toNat).2).2).2).2).1, (((((Ty.at (.pr (.int .i64) (.pr (.int .u32) (.pr (.int .i64) (.pr (.int .i64) (.pr (.int .i64) (.int .i64)))))) (x12.set x11.toNat (x13, x14, x15, x16, x17, x18)) x11.toNat).2).2).2).2).2)) x11.toNat).2).2).2).2).1, (((((Ty.at (.pr (.int .i64) (.pr (.int .u32) (.pr (.int .i64) (.pr (.int .i64) (.pr (.int .i64) (.int .i64)))))) ((x12.set x11.toNat (x13, x14, x15, x16, x17, x18)).set x11.toNat (x4, ((Ty.at (.pr (.int .i64) (.pr (.int .u32) (.pr (.int .i64) (.pr (.int .i64) (.pr (.int .i64) (.int .i64)))))) (x12.set x11.toNat (x13, x14, x15, x16, x17, x18)) x11.toNat).2).1, (((Ty.at (.pr (.int .i64) (.pr (.int .u32) (.pr (.int .i64) (.pr (.int .i64) (.pr (.int .i64) (.int .i64)))))) (x12.set x11.toNat (x13, x14, x15, x16, x17, x18)) x11.toNat).2).2).1, ((((Ty.at (.pr (.int .i64) (.pr (.int .u32) (.pr (.int .i64) (.pr (.int .i64) (.pr (.int .i64) (.int .i64)))))) (x12.set x11.toNat (x13, x14, x15, x16, x17, x18)) x11.toNat).2).2).2).1, (((((Ty.at (.pr (.int .i64) (.pr (.int .u32) (.pr (.int .i64) (.pr (.int .i64) (.pr (.int .i64) (.int .i64)))))) (x12.set x11.toNat (x13, x14, x15, x16, x17, x18)) x11.toNat).2).2).2).2).1, (((((Ty.at (.pr (.int .i64) (.pr (.int .u32) (.pr (.int .i64) (.pr (.int .i64) (.pr (.int .i64) (.int .i64)))))) (x12.set x11.toNat (x13, x14, x15, x16, x17, x18)) x11.toNat).2).2).2).2).2)) x11.toNat).2).2).2).2).2))).bind fun (x19, (x20, x21), x22) => some ((x22, x19, x21), x11, 0))
                                    else none)
                                  else none)
                                else none)
                              else none)
                            else none)
                          else none))
                      else none)
                    else none)))))))
  else some ((x1, x2, x3), 0, 1)
def treap_Insert : (((List (Int × Int × Int × Int × Int × Int)) × Int × Int) × Int × Int) → Option (((List (Int × Int × Int × Int × Int × Int)) × Int × Int) × Int × Int) := treap_Insert_g LOOPx treap_empty treap_Right treap_Find treap_own insert
theorem treap_Insert_ok : FnOK Go.Proofs.Try.prog fn_treap_Insert sg_treap_Insert treap_Insert := fn_of (P := Go.Proofs.Try.prog) (f := fn_treap_Insert) (sg := sg_treap_Insert) (sgs := [(fn_treap_empty, sg_treap_empty), (fn_treap_Right, sg_treap_Right), (fn_treap_Find, sg_treap_Find), (fn_treap_own, sg_treap_own), (fn_insert, sg_insert)]) (Gd := fun LP gs => treap_Insert_g LP gs.1 gs.2.1 gs.2.2.1 gs.2.2.2.1 gs.2.2.2.2.1) (hn := []) (h := []) (treap_empty, treap_Right, treap_Find, treap_own, insert, ()) ⟨treap_empty_ok, treap_Right_ok, treap_Find_ok, treap_own_ok, insert_ok, trivial⟩ (by kernel_rfl) (by kernel_rfl)
abbrev fn_treap_found : FuncId := 31
def sg_treap_found : Sig := ⟨⟨[(0, .ag [.vs 0 (.pr (.int .i64) (.pr (.int .u32) (.pr (.int .i64) (.pr (.int .i64) (.pr (.int .i64) (.int .i64)))))), .it .i64, .it .i64]), (1, .it .i64)], []⟩, [⟨[(0, .it .i64), (1, .it .i64)], []⟩]⟩
def treap_found_g (LP : LPT) (treap_Right : ((List (Int × Int × Int × Int × Int × Int)) × Int × Int) → Option (Bool)) (treap_Find : (((List (Int × Int × Int × Int × Int × Int)) × Int × Int) × Int) → Option (Int × Int × Bool)) : (((List (Int × Int × Int × Int × Int × Int)) × Int × Int) × Int) → Option (Int × Int) := fun ((x1, x2, x3), x4) =>
  (treap_Right (x1, x2, x3)).bind fun x5 => 
    (bif !x5 then some (0, 1)
    else 
      ((treap_Find ((x1, x2, x3), x4)).bind fun (x6, x7, x8) => 
        (bif !x8 then some (0, 7)
        else some (x6, 0))))
def treap_found : (((List (Int × Int × Int × Int × Int × Int)) × Int × Int) × Int) → Option (Int × Int) := treap_found_g LOOPx treap_Right treap_Find
theorem treap_found_ok : FnOK Go.Proofs.Try.prog fn_treap_found sg_treap_found treap_found := fn_of (P := Go.Proofs.Try.prog) (f := fn_treap_found) (sg := sg_treap_found) (sgs := [(fn_treap_Right, sg_treap_Right), (fn_treap_Find, sg_treap_Find)]) (Gd := fun LP gs => treap_found_g LP gs.1 gs.2.1) (hn := []) (h := []) (treap_Right, treap_Find, ()) ⟨treap_Right_ok, treap_Find_ok, trivial⟩ (by kernel_rfl) (by kernel_rfl)
abbrev fn_treap_Delete : FuncId := 11
def sg_treap_Delete : Sig := ⟨⟨[(0, .ag [.vs 0 (.pr (.int .i64) (.pr (.int .u32) (.pr (.int .i64) (.pr (.int .i64) (.pr (.int .i64) (.int .i64)))))), .it .i64, .it .i64]), (1, .it .i64)], []⟩, [⟨[(0, .ag [.vs 0 (.pr (.int .i64) (.pr (.int .u32) (.pr (.int .i64) (.pr (.int .i64) (.pr (.int .i64) (.int .i64)))))), .it .i64, .it .i64]), (1, .it .i64)], []⟩]⟩
def treap_Delete_g (LP : LPT) (treap_empty : Int → Option (Int × Int × Int × Int × Int × Int)) (treap_own : ((List (Int × Int × Int × Int × Int × Int)) × Int × Int) → Option ((Int × Int) × List (Int × Int × Int × Int × Int × Int))) (without : ((Int × Int) × (Int × Int) × List (Int × Int × Int × Int × Int × Int)) → Option (Int × (Int × Int) × List (Int × Int × Int × Int × Int × Int))) (treap_found : (((List (Int × Int × Int × Int × Int × Int)) × Int × Int) × Int) → Option (Int × Int)) : (((List (Int × Int × Int × Int × Int × Int)) × Int × Int) × Int) → Option (((List (Int × Int × Int × Int × Int × Int)) × Int × Int) × Int) := fun ((x1, x2, x3), x4) =>
  (treap_found ((x1, x2, x3), x4)).bind fun (x5, x6) => 
    (bif !decide (x6 = (0 : Int)) then some ((x1, x2, x3), x6)
    else 
      (bif decide (0 ≤ x5) && decide (x5 < (x1.length : Int)) then 
        ((treap_empty (0 : Int)).bind fun (x7, x8, x9, x10, x11, x12) => 
          (bif !((((((((Ty.at (.pr (.int .i64) (.pr (.int .u32) (.pr (.int .i64) (.pr (.int .i64) (.pr (.int .i64) (.int .i64)))))) x1 x5.toNat).2).2).2).2).1) == x11) && ((((((((Ty.at (.pr (.int .i64) (.pr (.int .u32) (.pr (.int .i64) (.pr (.int .i64) (.pr (.int .i64) (.int .i64)))))) x1 x5.toNat).2).2).2).2).2) == x12) && true)) then some ((x1, x2, x3), 8)
          else 
            ((treap_own (x1, x2, x3)).bind fun ((x13, x14), x15) => 
              ((without ((x13, x5), (x13, x14), x15)).bind fun (x16, (x17, x18), x19) => 
                ((treap_empty x18).bind fun (x20, x21, x22, x23, x24, x25) => 
                  (bif decide (0 ≤ x5) && decide (x5 < (x19.length : Int)) then 
                    (bif decide (x5.toNat < x19.length) then some ((x19.set x5.toNat (x20, x21, x22, x23, x24, x25), x16, x5), 0)
                      else none)
                    else none))))))
        else none))
def treap_Delete : (((List (Int × Int × Int × Int × Int × Int)) × Int × Int) × Int) → Option (((List (Int × Int × Int × Int × Int × Int)) × Int × Int) × Int) := treap_Delete_g LOOPx treap_empty treap_own without treap_found
theorem treap_Delete_ok : FnOK Go.Proofs.Try.prog fn_treap_Delete sg_treap_Delete treap_Delete := fn_of (P := Go.Proofs.Try.prog) (f := fn_treap_Delete) (sg := sg_treap_Delete) (sgs := [(fn_treap_empty, sg_treap_empty), (fn_treap_own, sg_treap_own), (fn_without, sg_without), (fn_treap_found, sg_treap_found)]) (Gd := fun LP gs => treap_Delete_g LP gs.1 gs.2.1 gs.2.2.1 gs.2.2.2.1) (hn := []) (h := []) (treap_empty, treap_own, without, treap_found, ()) ⟨treap_empty_ok, treap_own_ok, without_ok, treap_found_ok, trivial⟩ (by kernel_rfl) (by kernel_rfl)
abbrev fn_treap_Hang : FuncId := 21
def sg_treap_Hang : Sig := ⟨⟨[(0, .ag [.vs 0 (.pr (.int .i64) (.pr (.int .u32) (.pr (.int .i64) (.pr (.int .i64) (.pr (.int .i64) (.int .i64)))))), .it .i64, .it .i64]), (1, .it .i64), (2, .ag [.it .i64, .it .i64])], []⟩, [⟨[(0, .ag [.vs 0 (.pr (.int .i64) (.pr (.int .u32) (.pr (.int .i64) (.pr (.int .i64) (.pr (.int .i64) (.int .i64)))))), .it .i64, .it .i64]), (1, .it .i64)], []⟩]⟩
def treap_Hang_g (LP : LPT) (treap_own : ((List (Int × Int × Int × Int × Int × Int)) × Int × Int) → Option ((Int × Int) × List (Int × Int × Int × Int × Int × Int))) (treap_found : (((List (Int × Int × Int × Int × Int × Int)) × Int × Int) × Int) → Option (Int × Int)) : (((List (Int × Int × Int × Int × Int × Int)) × Int × Int) × Int × Int × Int) → Option (((List (Int × Int × Int × Int × Int × Int)) × Int × Int) × Int) := fun ((x1, x2, x3), x4, x5, x6) =>
  (treap_found ((x1, x2, x3), x4)).bind fun (x7, x8) => 
    (bif !decide (x8 = (0 : Int)) then some ((x1, x2, x3), x8)
    else 
      ((treap_own (x1, x2, x3)).bind fun ((x9, x10), x11) => 
        (bif decide (0 ≤ x7) && decide (x7 < (x11.length : Int)) then 
          (bif decide (x7.toNat < x11.length) then some ((x11.set x7.toNat ((Ty.at (.pr (.int .i64) (.pr (.int .u32) (.pr (.int .i64) (.pr (.int .i64) (.pr (.int .i64) (.int .i64)))))) x11 x7.toNat).1, ((Ty.at (.pr (.int .i64) (.pr (.int .u32) (.pr (.int .i64) (.pr (.int .i64) (.pr (.int .i64) (.int .i64)))))) x11 x7.toNat).2).1, (((Ty.at (.pr (.int .i64) (.pr (.int .u32) (.pr (.int .i64) (.pr (.int .i64) (.pr (.int .i64) (.int .i64)))))) x11 x7.toNat).2).2).1, ((((Ty.at (.pr (.int .i64) (.pr (.int .u32) (.pr (.int .i64) (.pr (.int .i64) (.pr (.int .i64) (.int .i64)))))) x11 x7.toNat).2).2).2).1, x5, x6), x9, x10), 0)
            else none)
          else none)))
def treap_Hang : (((List (Int × Int × Int × Int × Int × Int)) × Int × Int) × Int × Int × Int) → Option (((List (Int × Int × Int × Int × Int × Int)) × Int × Int) × Int) := treap_Hang_g LOOPx treap_own treap_found
theorem treap_Hang_ok : FnOK Go.Proofs.Try.prog fn_treap_Hang sg_treap_Hang treap_Hang := fn_of (P := Go.Proofs.Try.prog) (f := fn_treap_Hang) (sg := sg_treap_Hang) (sgs := [(fn_treap_own, sg_treap_own), (fn_treap_found, sg_treap_found)]) (Gd := fun LP gs => treap_Hang_g LP gs.1 gs.2.1) (hn := []) (h := []) (treap_own, treap_found, ()) ⟨treap_own_ok, treap_found_ok, trivial⟩ (by kernel_rfl) (by kernel_rfl)
abbrev fn_torporlaw09_alike : FuncId := 25
def sg_torporlaw09_alike : Sig := ⟨⟨[(0, .ag [.vs 0 (.pr (.int .i64) (.pr (.int .u32) (.pr (.int .i64) (.pr (.int .i64) (.pr (.int .i64) (.int .i64)))))), .it .i64, .it .i64]), (1, .it .i64), (2, .ag [.vs 0 (.pr (.int .i64) (.pr (.int .u32) (.pr (.int .i64) (.pr (.int .i64) (.pr (.int .i64) (.int .i64)))))), .it .i64, .it .i64]), (3, .it .i64), (4, .it .i64)], []⟩, [⟨[(0, .bo)], []⟩]⟩
def torporlaw09_alike_g (LP : LPT) (self_torporlaw09_alike : (((List (Int × Int × Int × Int × Int × Int)) × Int × Int) × Int × ((List (Int × Int × Int × Int × Int × Int)) × Int × Int) × Int × Int) → Option (Bool)) : (((List (Int × Int × Int × Int × Int × Int)) × Int × Int) × Int × ((List (Int × Int × Int × Int × Int × Int)) × Int × Int) × Int × Int) → Option (Bool) := fun ((x1, x2, x3), x4, (x5, x6, x7), x8, x9) =>
  bif !(decide (x4 = (-1))) then 
      (bif decide (x8 = (-1)) then some (decide (x4 = x8))
      else 
        (bif !(decide (x9 = (0 : Int))) then 
            (bif !(decide (x4 < (0 : Int))) then 
                (bif !(decide ((x1.length : Int) ≤ x4)) then 
                    (bif !(decide (x8 < (0 : Int))) then 
                        (bif decide ((x5.length : Int) ≤ x8) then some false
                        else 
                          (bif decide (0 ≤ x4) && decide (x4 < (x1.length : Int)) then 
                            (bif decide (0 ≤ x8) && decide (x8 < (x5.length : Int)) then 
                              (bif decide (((Ty.at (.pr (.int .i64) (.pr (.int .u32) (.pr (.int .i64) (.pr (.int .i64) (.pr (.int .i64) (.int .i64)))))) x1 x4.toNat).1) = ((Ty.at (.pr (.int .i64) (.pr (.int .u32) (.pr (.int .i64) (.pr (.int .i64) (.pr (.int .i64) (.int .i64)))))) x5 x8.toNat).1)) then 
                                  (bif decide ((((Ty.at (.pr (.int .i64) (.pr (.int .u32) (.pr (.int .i64) (.pr (.int .i64) (.pr (.int .i64) (.int .i64)))))) x1 x4.toNat).2).1) = (((Ty.at (.pr (.int .i64) (.pr (.int .u32) (.pr (.int .i64) (.pr (.int .i64) (.pr (.int .i64) (.int .i64)))))) x5 x8.toNat).2).1)) then 
                                      ((self_torporlaw09_alike ((x1, x2, x3), (((Ty.at (.pr (.int .i64) (.pr (.int .u32) (.pr (.int .i64) (.pr (.int .i64) (.pr (.int .i64) (.int .i64)))))) x1 x4.toNat).2).2).1, (x5, x6, x7), (((Ty.at (.pr (.int .i64) (.pr (.int .u32) (.pr (.int .i64) (.pr (.int .i64) (.pr (.int .i64) (.int .i64)))))) x5 x8.toNat).2).2).1, IntKind.i64.wrap (x9 - (1 : Int)))).bind fun x10 => 
                                        (bif x10 then 
                                            ((self_torporlaw09_alike ((x1, x2, x3), ((((Ty.at (.pr (.int .i64) (.pr (.int .u32) (.pr (.int .i64) (.pr (.int .i64) (.pr (.int .i64) (.int .i64)))))) x1 x4.toNat).2).2).2).1, (x5, x6, x7), ((((Ty.at (.pr (.int .i64) (.pr (.int .u32) (.pr (.int .i64) (.pr (.int .i64) (.pr (.int .i64) (.int .i64)))))) x5 x8.toNat).2).2).2).1, IntKind.i64.wrap (x9 - (1 : Int)))).bind fun x11 => some x11)
                                        else some false))
                                  else some false)
                              else some false)
                              else none)
                            else none))
                    else some false)
                else some false)
            else some false)
        else some false))
  else some (decide (x4 = x8))
def torporlaw09_alike : (((List (Int × Int × Int × Int × Int × Int)) × Int × Int) × Int × ((List (Int × Int × Int × Int × Int × Int)) × Int × Int) × Int × Int) → Option (Bool) := FIX fun g => torporlaw09_alike_g LOOPx g
theorem torporlaw09_alike_ok : FnOK Go.Proofs.Try.prog fn_torporlaw09_alike sg_torporlaw09_alike torporlaw09_alike := fn_rec (by kernel_rfl) fun g hg => fn_of (P := Go.Proofs.Try.prog) (f := fn_torporlaw09_alike) (sg := sg_torporlaw09_alike) (sgs := [(fn_torporlaw09_alike, sg_torporlaw09_alike)]) (Gd := fun LP gs => torporlaw09_alike_g LP gs.1) (hn := []) (h := []) (g, ()) ⟨hg, trivial⟩ (by kernel_rfl) (by kernel_rfl)
abbrev fn_torporlaw09_alive : FuncId := 7
def sg_torporlaw09_alive : Sig := ⟨⟨[], []⟩, [⟨[(0, .bo)], []⟩]⟩
def torporlaw09_alive_g (LP : LPT) (torporref01_Ints : ((List Int) × List Int) → Option (Bool)) (treap_Right : ((List (Int × Int × Int × Int × Int × Int)) × Int × Int) → Option (Bool)) (treap_Make : Int → Option (((Int × Int) × Int) × List (Int × Int × Int × Int × Int × Int))) (treap_Keys : ((List (Int × Int × Int × Int × Int × Int)) × Int × Int) → Option (List Int)) (treap_Find : (((List (Int × Int × Int × Int × Int × Int)) × Int × Int) × Int) → Option (Int × Int × Bool)) (treap_Insert : (((List (Int × Int × Int × Int × Int × Int)) × Int × Int) × Int × Int) → Option (((List (Int × Int × Int × Int × Int × Int)) × Int × Int) × Int × Int)) (treap_Delete : (((List (Int × Int × Int × Int × Int × Int)) × Int × Int) × Int) → Option (((List (Int × Int × Int × Int × Int × Int)) × Int × Int) × Int)) (treap_Hang : (((List (Int × Int × Int × Int × Int × Int)) × Int × Int) × Int × Int × Int) → Option (((List (Int × Int × Int × Int × Int × Int)) × Int × Int) × Int)) : Unit → Option (Bool) := fun _ =>
  (treap_Make (3 : Int)).bind fun (((x1, x2), x3), x4) => 
    ((treap_Insert ((x4, x1, x2), 1, 5)).bind fun ((x5, x6, x7), x8, x9) => 
      ((treap_Insert ((x5, x6, x7), 2, 3)).bind fun ((x10, x11, x12), x13, x14) => 
        ((treap_Insert ((x10, x11, x12), 3, 9)).bind fun ((x15, x16, x17), x18, x19) => 
          ((treap_Insert ((x15, x16, x17), 4, 1)).bind fun ((x20, x21, x22), x23, x24) => 
            ((treap_Insert ((x15, x16, x17), 2, 1)).bind fun ((x25, x26, x27), x28, x29) => 
              ((treap_Find ((x15, x16, x17), 3)).bind fun (x30, x31, x32) => 
                ((treap_Find ((x15, x16, x17), 9)).bind fun (x33, x34, x35) => 
                  ((treap_Delete ((x15, x16, x17), 2)).bind fun ((x36, x37, x38), x39) => 
                    ((treap_Hang ((x36, x37, x38), 3, 4, 4)).bind fun ((x40, x41, x42), x43) => 
                      ((treap_Delete ((x40, x41, x42), 3)).bind fun ((x44, x45, x46), x47) => 
                        (bif decide (x3 = (0 : Int)) then 
                            (bif decide (x9 = (0 : Int)) then 
                                (bif decide (x14 = (0 : Int)) then 
                                    (bif decide (x19 = (0 : Int)) then 
                                        (bif decide (x24 = (6 : Int)) then 
                                            (bif decide (x29 = (8 : Int)) then 
                                                (bif decide (x39 = (0 : Int)) then 
                                                    (bif decide (x43 = (0 : Int)) then 
                                                        (bif decide (x47 = (8 : Int)) then 
                                                            (bif decide (x13 = (1 : Int)) then 
                                                                (bif decide (x30 = (2 : Int)) then 
                                                                    (bif decide (x31 = (2 : Int)) then 
                                                                        (bif x32 then 
                                                                            (bif decide (x34 = (2 : Int)) then 
                                                                                (bif !x35 then 
                                                                                    (bif decide (x16 = (1 : Int)) then 
                                                                                        (bif decide ((x15.length : Int) = (3 : Int)) then 
                                                                                            (bif decide (0 ≤ 1) && decide (1 < (x15.length : Int)) then 
                                                                                              (bif decide (((((Ty.at (.pr (.int .i64) (.pr (.int .u32) (.pr (.int .i64) (.pr (.int .i64) (.pr (.int .i64) (.int .i64)))))) x15 ((1 : Int).toNat)).2).2).1) = (0 : Int)) then 
                                                                                                  (bif decide (0 ≤ 1) && decide (1 < (x15.length : Int)) then 
                                                                                                    (bif decide ((((((Ty.at (.pr (.int .i64) (.pr (.int .u32) (.pr (.int .i64) (.pr (.int .i64) (.pr (.int .i64) (.int .i64)))))) x15 ((1 : Int).toNat)).2).2).2).1) = (2 : Int)) then 
                                                                                                        (bif decide (x37 = (0 : Int)) then 
                                                                                                            (bif decide (x38 = (1 : Int)) then 
                                                                                                                ((treap_Keys (x36, x37, x38)).bind fun x48 => 
                                                                                                                  ((torporref01_Ints (x48, [1, 3])).bind fun x49 => 
                                                                                                                    (bif x49 then 
                                                                                                                        ((treap_Right (x40, x41, x42)).bind fun x50 => 
                                                                                                                          (bif x50 then 
                                                                                                                              ((treap_Right ([], 0, 0)).bind fun x51 => some (!x51))
                                                                                                                          else some false))
                                                                                                                    else some false)))
                                                                                                            else some false)
                                                                                                        else some false)
                                                                                                    else some false)
                                                                                                    else none)
                                                                                              else some false)
                                                                                              else none)
                                                                                        else some false)
                                                                                    else some false)
                                                                                else some false)
                                                                            else some false)
                                                                        else some false)
                                                                    else some false)
                                                                else some false)
                                                            else some false)
                                                        else some false)
                                                    else some false)
                                                else some false)
                                            else some false)
                                        else some false)
                                    else some false)
                                else some false)
                            else some false)
                        else some false)))))))))))
def torporlaw09_alive : Unit → Option (Bool) := torporlaw09_alive_g LOOPx torporref01_Ints treap_Right treap_Make treap_Keys treap_Find treap_Insert treap_Delete treap_Hang
theorem torporlaw09_alive_ok : FnOK Go.Proofs.Try.prog fn_torporlaw09_alive sg_torporlaw09_alive torporlaw09_alive := fn_of (P := Go.Proofs.Try.prog) (f := fn_torporlaw09_alive) (sg := sg_torporlaw09_alive) (sgs := [(fn_torporref01_Ints, sg_torporref01_Ints), (fn_treap_Right, sg_treap_Right), (fn_treap_Make, sg_treap_Make), (fn_treap_Keys, sg_treap_Keys), (fn_treap_Find, sg_treap_Find), (fn_treap_Insert, sg_treap_Insert), (fn_treap_Delete, sg_treap_Delete), (fn_treap_Hang, sg_treap_Hang)]) (Gd := fun LP gs => torporlaw09_alive_g LP gs.1 gs.2.1 gs.2.2.1 gs.2.2.2.1 gs.2.2.2.2.1 gs.2.2.2.2.2.1 gs.2.2.2.2.2.2.1 gs.2.2.2.2.2.2.2.1) (hn := []) (h := []) (torporref01_Ints, treap_Right, treap_Make, treap_Keys, treap_Find, treap_Insert, treap_Delete, treap_Hang, ()) ⟨torporref01_Ints_ok, treap_Right_ok, treap_Make_ok, treap_Keys_ok, treap_Find_ok, treap_Insert_ok, treap_Delete_ok, treap_Hang_ok, trivial⟩ (by kernel_rfl) (by kernel_rfl)
abbrev fn_torporlaw09_TreapAnswers : FuncId := 3
def sg_torporlaw09_TreapAnswers : Sig := ⟨⟨[(0, .ag [.vs 0 (.pr (.int .i64) (.pr (.int .u32) (.pr (.int .i64) (.pr (.int .i64) (.pr (.int .i64) (.int .i64)))))), .it .i64, .it .i64]), (1, .it .i64), (2, .it .u32)], []⟩, [⟨[(0, .bo)], []⟩]⟩
def torporlaw09_TreapAnswers_g (LP : LPT) (torporref01_Ints : ((List Int) × List Int) → Option (Bool)) (torporref09_Copy : ((List (Int × Int × Int × Int × Int × Int)) × Int × Int) → Option ((Int × Int) × List (Int × Int × Int × Int × Int × Int))) (torporref09_Same : (((List (Int × Int × Int × Int × Int × Int)) × Int × Int) × (List (Int × Int × Int × Int × Int × Int)) × Int × Int) → Option (Bool)) (torporref09_Right : ((List (Int × Int × Int × Int × Int × Int)) × Int × Int) → Option (Bool)) (torporref09_Keys : ((List (Int × Int × Int × Int × Int × Int)) × Int × Int) → Option (List Int)) (torporref09_Find : (((List (Int × Int × Int × Int × Int × Int)) × Int × Int) × Int) → Option (Int × Int × Bool)) (torporref09_Insert : (((List (Int × Int × Int × Int × Int × Int)) × Int × Int) × Int × Int) → Option (((List (Int × Int × Int × Int × Int × Int)) × Int × Int) × Int × Int)) (torporref09_Delete : (((List (Int × Int × Int × Int × Int × Int)) × Int × Int) × Int) → Option (((List (Int × Int × Int × Int × Int × Int)) × Int × Int) × Int)) (treap_Right : ((List (Int × Int × Int × Int × Int × Int)) × Int × Int) → Option (Bool)) (treap_Keys : ((List (Int × Int × Int × Int × Int × Int)) × Int × Int) → Option (List Int)) (treap_Find : (((List (Int × Int × Int × Int × Int × Int)) × Int × Int) × Int) → Option (Int × Int × Bool)) (treap_Insert : (((List (Int × Int × Int × Int × Int × Int)) × Int × Int) × Int × Int) → Option (((List (Int × Int × Int × Int × Int × Int)) × Int × Int) × Int × Int)) (treap_Delete : (((List (Int × Int × Int × Int × Int × Int)) × Int × Int) × Int) → Option (((List (Int × Int × Int × Int × Int × Int)) × Int × Int) × Int)) (torporlaw09_alive : Unit → Option (Bool)) : (((List (Int × Int × Int × Int × Int × Int)) × Int × Int) × Int × Int) → Option (Bool) := fun ((x1, x2, x3), x4, x5) =>
  (torporlaw09_alive ()).bind fun x6 => 
    (bif !x6 then some false
    else 
      (bif decide ((70 : Int) < (x1.length : Int)) then some true
      else 
        ((torporref09_Copy (x1, x2, x3)).bind fun ((x7, x8), x9) => 
          ((treap_Insert ((x9, x7, x8), x4, x5)).bind fun ((x10, x11, x12), x13, x14) => 
            ((torporref09_Insert ((x1, x2, x3), x4, x5)).bind fun ((x15, x16, x17), x18, x19) => 
              ((treap_Delete ((x9, x7, x8), x4)).bind fun ((x20, x21, x22), x23) => 
                ((torporref09_Delete ((x1, x2, x3), x4)).bind fun ((x24, x25, x26), x27) => 
                  ((treap_Find ((x1, x2, x3), x4)).bind fun (x28, x29, x30) => 
                    ((torporref09_Find ((x1, x2, x3), x4)).bind fun (x31, x32, x33) => 
                      ((torporref09_Same ((x10, x11, x12), x15, x16, x17)).bind fun x34 => 
                        (bif x34 then 
                            (bif decide (x13 = x18) then 
                                (bif decide (x14 = x19) then 
                                    ((torporref09_Same ((x20, x21, x22), x24, x25, x26)).bind fun x35 => 
                                      (bif x35 then 
                                          (bif decide (x23 = x27) then 
                                              (bif decide (x28 = x31) then 
                                                  (bif decide (x29 = x32) then 
                                                      (bif x30 == x33 then 
                                                          ((treap_Right (x1, x2, x3)).bind fun x36 => 
                                                            ((torporref09_Right (x1, x2, x3)).bind fun x37 => 
                                                              (bif x36 == x37 then 
                                                                  ((treap_Keys (x1, x2, x3)).bind fun x38 => 
                                                                    ((torporref09_Keys (x1, x2, x3)).bind fun x39 => 
                                                                      ((torporref01_Ints (x38, x39)).bind fun x40 => 
                                                                        (bif x40 then 
                                                                            ((torporref09_Same ((x9, x7, x8), x1, x2, x3)).bind fun x41 => some x41)
                                                                        else some false))))
                                                              else some false)))
                                                      else some false)
                                                  else some false)
                                              else some false)
                                          else some false)
                                      else some false))
                                else some false)
                            else some false)
                        else some false)))))))))))
def torporlaw09_TreapAnswers : (((List (Int × Int × Int × Int × Int × Int)) × Int × Int) × Int × Int) → Option (Bool) := torporlaw09_TreapAnswers_g LOOPx torporref01_Ints torporref09_Copy torporref09_Same torporref09_Right torporref09_Keys torporref09_Find torporref09_Insert torporref09_Delete treap_Right treap_Keys treap_Find treap_Insert treap_Delete torporlaw09_alive
theorem torporlaw09_TreapAnswers_ok : FnOK Go.Proofs.Try.prog fn_torporlaw09_TreapAnswers sg_torporlaw09_TreapAnswers torporlaw09_TreapAnswers := fn_of (P := Go.Proofs.Try.prog) (f := fn_torporlaw09_TreapAnswers) (sg := sg_torporlaw09_TreapAnswers) (sgs := [(fn_torporref01_Ints, sg_torporref01_Ints), (fn_torporref09_Copy, sg_torporref09_Copy), (fn_torporref09_Same, sg_torporref09_Same), (fn_torporref09_Right, sg_torporref09_Right), (fn_torporref09_Keys, sg_torporref09_Keys), (fn_torporref09_Find, sg_torporref09_Find), (fn_torporref09_Insert, sg_torporref09_Insert), (fn_torporref09_Delete, sg_torporref09_Delete), (fn_treap_Right, sg_treap_Right), (fn_treap_Keys, sg_treap_Keys), (fn_treap_Find, sg_treap_Find), (fn_treap_Insert, sg_treap_Insert), (fn_treap_Delete, sg_treap_Delete), (fn_torporlaw09_alive, sg_torporlaw09_alive)]) (Gd := fun LP gs => torporlaw09_TreapAnswers_g LP gs.1 gs.2.1 gs.2.2.1 gs.2.2.2.1 gs.2.2.2.2.1 gs.2.2.2.2.2.1 gs.2.2.2.2.2.2.1 gs.2.2.2.2.2.2.2.1 gs.2.2.2.2.2.2.2.2.1 gs.2.2.2.2.2.2.2.2.2.1 gs.2.2.2.2.2.2.2.2.2.2.1 gs.2.2.2.2.2.2.2.2.2.2.2.1 gs.2.2.2.2.2.2.2.2.2.2.2.2.1 gs.2.2.2.2.2.2.2.2.2.2.2.2.2.1) (hn := []) (h := []) (torporref01_Ints, torporref09_Copy, torporref09_Same, torporref09_Right, torporref09_Keys, torporref09_Find, torporref09_Insert, torporref09_Delete, treap_Right, treap_Keys, treap_Find, treap_Insert, treap_Delete, torporlaw09_alive, ()) ⟨torporref01_Ints_ok, torporref09_Copy_ok, torporref09_Same_ok, torporref09_Right_ok, torporref09_Keys_ok, torporref09_Find_ok, torporref09_Insert_ok, torporref09_Delete_ok, treap_Right_ok, treap_Keys_ok, treap_Find_ok, treap_Insert_ok, treap_Delete_ok, torporlaw09_alive_ok, trivial⟩ (by kernel_rfl) (by kernel_rfl)
end Go.AX
end
