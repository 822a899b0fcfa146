/- Parts: TfA. -/
import Derived.Test.YtjcclccdjeekkaaGvA
import Derived.Test.YtjcclccdjeekkaaGeB
import Derived.Test.YtjcclccdjeekkaaProg
import Derived.KernelRfl

section
/- Functions of this seat, as typed functions of Lean, written by a program; each with its proof. -/
set_option linter.unusedVariables false
set_option maxRecDepth 100000
namespace Go.AX
open Go

/-- torporref01.Ints -/
abbrev fn_torporref01_Ints : FuncId := 20
def sg_torporref01_Ints : Sig := ⟨⟨[(0, .vs 0 (.int .i64)), (1, .vs 0 (.int .i64))], []⟩, [⟨[(0, .bo)], []⟩]⟩
def torporref01_Ints_g (LP : LPT) : ((List Int) × List Int) → Option (Bool) := fun (x1, x2) =>
  bif !decide ((x1.length : Int) = (x2.length : Int)) then some false
  else 
    (LP ((List Int) × (List Int) × Int) (Bool) (fun (x3, x4, x5) =>
      bif decide (x5 < (x3.length : Int)) then 
          (bif decide (0 ≤ x5) && decide (x5 < (x3.length : Int)) then 
            (bif decide (0 ≤ x5) && decide (x5 < (x4.length : Int)) then 
              (bif !decide ((Ty.at (.int .i64) x3 x5.toNat) = (Ty.at (.int .i64) x4 x5.toNat)) then some (.inr false)
              else some (.inl (x3, x4, IntKind.i64.wrap (x5 + (1 : Int)))))
              else none)
            else none)
      else some (.inr true))
      (x1, x2, 0))
def torporref01_Ints : ((List Int) × List Int) → Option (Bool) := torporref01_Ints_g LOOPx
theorem torporref01_Ints_ok : FnOK Go.Proofs.Try.prog fn_torporref01_Ints sg_torporref01_Ints torporref01_Ints := fn_of (P := Go.Proofs.Try.prog) (f := fn_torporref01_Ints) (sg := sg_torporref01_Ints) (sgs := []) (Gd := fun LP gs => torporref01_Ints_g LP) (hn := []) (h := [(14, false, ⟨[(0, .vs 0 (.int .i64)), (1, .vs 0 (.int .i64)), (5, .it .i64)], []⟩)]) (()) trivial (by kernel_rfl) (by kernel_rfl)

/-- torporref12.Before -/
abbrev fn_torporref12_Before : FuncId := 23
def sg_torporref12_Before : Sig := ⟨⟨[(0, .ag [.it .i64, .it .i64]), (1, .ag [.it .i64, .it .i64])], []⟩, [⟨[(0, .bo)], []⟩]⟩
def torporref12_Before_g (LP : LPT) : ((Int × Int) × Int × Int) → Option (Bool) := fun ((x1, x2), x3, x4) =>
  bif !(decide (x1 < x3)) then 
      (bif decide (x1 = x3) then some (decide (x2 < x4))
      else some false)
  else some true
def torporref12_Before : ((Int × Int) × Int × Int) → Option (Bool) := torporref12_Before_g LOOPx
theorem torporref12_Before_ok : FnOK Go.Proofs.Try.prog fn_torporref12_Before sg_torporref12_Before torporref12_Before := fn_of (P := Go.Proofs.Try.prog) (f := fn_torporref12_Before) (sg := sg_torporref12_Before) (sgs := []) (Gd := fun LP gs => torporref12_Before_g LP) (hn := []) (h := []) (()) trivial (by kernel_rfl) (by kernel_rfl)

/-- torporref12.Right -/
abbrev fn_torporref12_Right : FuncId := 17
def sg_torporref12_Right : Sig := ⟨⟨[(0, .vs 0 (.pr (.int .i64) (.int .i64)))], []⟩, [⟨[(0, .bo)], []⟩]⟩
def torporref12_Right_g (LP : LPT) (torporref12_Before : ((Int × Int) × Int × Int) → Option (Bool)) : (List (Int × Int)) → Option (Bool) := fun x1 =>
  bif decide ((12 : Int) < (x1.length : Int)) then some false
  else 
    (LP ((List (Int × Int)) × Int) (Bool) (fun (x2, x3) =>
      bif decide (x3 < (x2.length : Int)) then 
          (Option.bind (α := ((List (Int × Int)) × Int) ⊕ (((List (Int × Int)) × Int) ⊕ Bool)) (β := ((List (Int × Int)) × Int) ⊕ Bool) (bif decide (0 ≤ x3) && decide (x3 < (x2.length : Int)) then 
              (bif !(decide (((Ty.at (.pr (.int .i64) (.int .i64)) x2 x3.toNat).1) < (0 : Int))) then 
                  (bif decide (0 ≤ x3) && decide (x3 < (x2.length : Int)) then 
                    (bif !(decide (((Ty.at (.pr (.int .i64) (.int .i64)) x2 x3.toNat).2) < (0 : Int))) then 
                        (bif decide ((0 : Int) < x3) then 
                            (bif decide (0 ≤ x3) && decide (x3 < (x2.length : Int)) then 
                              (bif !decide ((4 : Int) = 0) then 
                                (bif decide (0 ≤ IntKind.i64.wrap ((IntKind.i64.wrap (x3 - (1 : Int))).tdiv (4 : Int))) && decide (IntKind.i64.wrap ((IntKind.i64.wrap (x3 - (1 : Int))).tdiv (4 : Int)) < (x2.length : Int)) then 
                                  ((torporref12_Before (((Ty.at (.pr (.int .i64) (.int .i64)) x2 x3.toNat).1, (Ty.at (.pr (.int .i64) (.int .i64)) x2 x3.toNat).2), (Ty.at (.pr (.int .i64) (.int .i64)) x2 ((IntKind.i64.wrap ((IntKind.i64.wrap (x3 - (1 : Int))).tdiv (4 : Int))).toNat)).1, (Ty.at (.pr (.int .i64) (.int .i64)) x2 ((IntKind.i64.wrap ((IntKind.i64.wrap (x3 - (1 : Int))).tdiv (4 : Int))).toNat)).2)).bind fun x4 => 
                                    (bif x4 then some (.inr (.inr false))
                                    else some (.inl (x2, x3))))
                                  else none)
                                else none)
                              else none)
                        else some (.inl (x2, x3)))
                    else some (.inr (.inr false)))
                    else none)
              else some (.inr (.inr false)))
              else none)
            fun z => match z with
            | .inl (x5, x6) => LP ((List (Int × Int)) × Int × Int) (((List (Int × Int)) × Int) ⊕ Bool) (fun (x7, x8, x9) =>
                bif decide (x9 < x8) then 
                    (bif decide (0 ≤ x9) && decide (x9 < (x7.length : Int)) then 
                      (bif decide (0 ≤ x8) && decide (x8 < (x7.length : Int)) then 
                        (bif decide (((Ty.at (.pr (.int .i64) (.int .i64)) x7 x9.toNat).2) = ((Ty.at (.pr (.int .i64) (.int .i64)) x7 x8.toNat).2)) then some (.inr (.inr false))
                        else some (.inl (x7, x8, IntKind.i64.wrap (x9 + (1 : Int)))))
                        else none)
                      else none)
                else some (.inr (.inl (x7, IntKind.i64.wrap (x8 + (1 : Int))))))
                (x5, x6, 0)
            | .inr o => some o)
      else some (.inr true))
      (x1, 0))
def torporref12_Right : (List (Int × Int)) → Option (Bool) := torporref12_Right_g LOOPx torporref12_Before
theorem torporref12_Right_ok : FnOK Go.Proofs.Try.prog fn_torporref12_Right sg_torporref12_Right torporref12_Right := fn_of (P := Go.Proofs.Try.prog) (f := fn_torporref12_Right) (sg := sg_torporref12_Right) (sgs := [(fn_torporref12_Before, sg_torporref12_Before)]) (Gd := fun LP gs => torporref12_Right_g LP gs.1) (hn := []) (h := [(14, false, ⟨[(0, .vs 0 (.pr (.int .i64) (.int .i64))), (3, .it .i64)], []⟩), (24, true, ⟨[(0, .vs 0 (.pr (.int .i64) (.int .i64))), (3, .it .i64)], []⟩), (34, false, ⟨[(0, .vs 0 (.pr (.int .i64) (.int .i64))), (3, .it .i64), (4, .it .i64)], []⟩)]) (torporref12_Before, ()) ⟨torporref12_Before_ok, trivial⟩ (by kernel_rfl) (by kernel_rfl)

/-- torporref12.Place -/
abbrev fn_torporref12_Place : FuncId := 24
def sg_torporref12_Place : Sig := ⟨⟨[(0, .vs 0 (.pr (.int .i64) (.int .i64))), (1, .it .i64)], []⟩, [⟨[(0, .it .i64)], []⟩]⟩
def torporref12_Place_g (LP : LPT) : ((List (Int × Int)) × Int) → Option (Int) := fun (x1, x2) =>
  LP ((List (Int × Int)) × Int × Int) (Int) (fun (x3, x4, x5) =>
    bif decide (x5 < (x3.length : Int)) then 
        (bif decide (0 ≤ x5) && decide (x5 < (x3.length : Int)) then 
          (bif decide (((Ty.at (.pr (.int .i64) (.int .i64)) x3 x5.toNat).2) = x4) then some (.inr x5)
          else some (.inl (x3, x4, IntKind.i64.wrap (x5 + (1 : Int)))))
          else none)
    else some (.inr (-1)))
    (x1, x2, 0)
def torporref12_Place : ((List (Int × Int)) × Int) → Option (Int) := torporref12_Place_g LOOPx
theorem torporref12_Place_ok : FnOK Go.Proofs.Try.prog fn_torporref12_Place sg_torporref12_Place torporref12_Place := fn_of (P := Go.Proofs.Try.prog) (f := fn_torporref12_Place) (sg := sg_torporref12_Place) (sgs := []) (Gd := fun LP gs => torporref12_Place_g LP) (hn := []) (h := [(6, false, ⟨[(0, .vs 0 (.pr (.int .i64) (.int .i64))), (1, .it .i64), (5, .it .i64)], []⟩)]) (()) trivial (by kernel_rfl) (by kernel_rfl)

/-- torporref12.Copy -/
abbrev fn_torporref12_Copy : FuncId := 8
def sg_torporref12_Copy : Sig := ⟨⟨[(0, .vs 0 (.pr (.int .i64) (.int .i64)))], []⟩, [⟨[(0, .gr 0)], [.gs true (.pr (.int .i64) (.int .i64))]⟩]⟩
def torporref12_Copy_g (LP : LPT) : (List (Int × Int)) → Option (List (Int × Int)) := fun x1 =>
  bif decide ((([] : List (Int × Int)).length + x1.length) * 16 ≤ 140737488355328) then some (([] : List (Int × Int)) ++ x1)
    else none
def torporref12_Copy : (List (Int × Int)) → Option (List (Int × Int)) := torporref12_Copy_g LOOPx
theorem torporref12_Copy_ok : FnOK Go.Proofs.Try.prog fn_torporref12_Copy sg_torporref12_Copy torporref12_Copy := fn_of (P := Go.Proofs.Try.prog) (f := fn_torporref12_Copy) (sg := sg_torporref12_Copy) (sgs := []) (Gd := fun LP gs => torporref12_Copy_g LP) (hn := []) (h := []) (()) trivial (by kernel_rfl) (by kernel_rfl)

/-- torporref12.Same -/
abbrev fn_torporref12_Same : FuncId := 15
def sg_torporref12_Same : Sig := ⟨⟨[(0, .vs 0 (.pr (.int .i64) (.int .i64))), (1, .vs 0 (.pr (.int .i64) (.int .i64)))], []⟩, [⟨[(0, .bo)], []⟩]⟩
def torporref12_Same_g (LP : LPT) : ((List (Int × Int)) × List (Int × Int)) → Option (Bool) := fun (x1, x2) =>
  bif !decide ((x1.length : Int) = (x2.length : Int)) then some false
  else 
    (LP ((List (Int × Int)) × (List (Int × Int)) × Int) (Bool) (fun (x3, x4, x5) =>
      bif decide (x5 < (x3.length : Int)) then 
          (bif decide (0 ≤ x5) && decide (x5 < (x3.length : Int)) then 
            (bif decide (0 ≤ x5) && decide (x5 < (x4.length : Int)) then 
              (bif !((((Ty.at (.pr (.int .i64) (.int .i64)) x3 x5.toNat).1) == ((Ty.at (.pr (.int .i64) (.int .i64)) x4 x5.toNat).1)) && ((((Ty.at (.pr (.int .i64) (.int .i64)) x3 x5.toNat).2) == ((Ty.at (.pr (.int .i64) (.int .i64)) x4 x5.toNat).2)) && true)) then some (.inr false)
              else some (.inl (x3, x4, IntKind.i64.wrap (x5 + (1 : Int)))))
              else none)
            else none)
      else some (.inr true))
      (x1, x2, 0))
def torporref12_Same : ((List (Int × Int)) × List (Int × Int)) → Option (Bool) := torporref12_Same_g LOOPx
theorem torporref12_Same_ok : FnOK Go.Proofs.Try.prog fn_torporref12_Same sg_torporref12_Same torporref12_Same := fn_of (P := Go.Proofs.Try.prog) (f := fn_torporref12_Same) (sg := sg_torporref12_Same) (sgs := []) (Gd := fun LP gs => torporref12_Same_g LP) (hn := []) (h := [(14, false, ⟨[(0, .vs 0 (.pr (.int .i64) (.int .i64))), (1, .vs 0 (.pr (.int .i64) (.int .i64))), (5, .it .i64)], []⟩)]) (()) trivial (by kernel_rfl) (by kernel_rfl)

/-- torporref12.Up -/
abbrev fn_torporref12_Up : FuncId := 29
def sg_torporref12_Up : Sig := ⟨⟨[(0, .vs 0 (.pr (.int .i64) (.int .i64))), (1, .it .i64)], []⟩, [⟨[(0, .gr 0)], [.gs true (.pr (.int .i64) (.int .i64))]⟩]⟩
def torporref12_Up_g (LP : LPT) (torporref12_Before : ((Int × Int) × Int × Int) → Option (Bool)) (torporref12_Copy : (List (Int × Int)) → Option (List (Int × Int))) : ((List (Int × Int)) × Int) → Option (List (Int × Int)) := fun (x1, x2) =>
  (torporref12_Copy x1).bind fun x3 => 
    (LP (Int × List (Int × Int)) (List (Int × Int)) (fun (x4, x5) =>
      bif decide ((0 : Int) < x4) then 
          (bif decide (0 ≤ x4) && decide (x4 < (x5.length : Int)) then 
            (bif decide (x4.toNat < x5.length) then 
              (bif !decide ((4 : Int) = 0) then 
                (bif decide (0 ≤ IntKind.i64.wrap ((IntKind.i64.wrap (x4 - (1 : Int))).tdiv (4 : Int))) && decide (IntKind.i64.wrap ((IntKind.i64.wrap (x4 - (1 : Int))).tdiv (4 : Int)) < (x5.length : Int)) then 
                  (bif decide ((IntKind.i64.wrap ((IntKind.i64.wrap (x4 - (1 : Int))).tdiv (4 : Int))).toNat < x5.length) then 
                    ((torporref12_Before (((Ty.at (.pr (.int .i64) (.int .i64)) x5 x4.toNat).1, (Ty.at (.pr (.int .i64) (.int .i64)) x5 x4.toNat).2), (Ty.at (.pr (.int .i64) (.int .i64)) x5 ((IntKind.i64.wrap ((IntKind.i64.wrap (x4 - (1 : Int))).tdiv (4 : Int))).toNat)).1, (Ty.at (.pr (.int .i64) (.int .i64)) x5 ((IntKind.i64.wrap ((IntKind.i64.wrap (x4 - (1 : Int))).tdiv (4 : Int))).toNat)).2)).bind fun x6 => 
                      (bif x6 then 
                          (bif !decide ((4 : Int) = 0) then 
                            (bif decide (0 ≤ IntKind.i64.wrap ((IntKind.i64.wrap (x4 - (1 : Int))).tdiv (4 : Int))) && decide (IntKind.i64.wrap ((IntKind.i64.wrap (x4 - (1 : Int))).tdiv (4 : Int)) < (x5.length : Int)) then 
                              (bif decide ((IntKind.i64.wrap ((IntKind.i64.wrap (x4 - (1 : Int))).tdiv (4 : Int))).toNat < x5.length) then 
                                (bif decide (0 ≤ x4) && decide (x4 < (x5.length : Int)) then 
                                  (bif decide (x4.toNat < x5.length) then 
                                    (bif decide (0 ≤ x4) && decide (x4 < (x5.length : Int)) then 
                                      (bif decide (x4.toNat < x5.length) then 
                                        (bif decide (0 ≤ IntKind.i64.wrap ((IntKind.i64.wrap (x4 - (1 : Int))).tdiv (4 : Int))) && decide (IntKind.i64.wrap ((IntKind.i64.wrap (x4 - (1 : Int))).tdiv (4 : Int)) < ((x5.set x4.toNat ((Ty.at (.pr (.int .i64) (.int .i64)) x5 ((IntKind.i64.wrap ((IntKind.i64.wrap (x4 - (1 : Int))).tdiv (4 : Int))).toNat)).1, (Ty.at (.pr (.int .i64) (.int .i64)) x5 ((IntKind.i64.wrap ((IntKind.i64.wrap (x4 - (1 : Int))).tdiv (4 : Int))).toNat)).2)).length : Int)) then 
                                          (bif decide ((IntKind.i64.wrap ((IntKind.i64.wrap (x4 - (1 : Int))).tdiv (4 : Int))).toNat < (x5.set x4.toNat ((Ty.at (.pr (.int .i64) (.int .i64)) x5 ((IntKind.i64.wrap ((IntKind.i64.wrap (x4 - (1 : Int))).tdiv (4 : Int))).toNat)).1, (Ty.at (.pr (.int .i64) (.int .i64)) x5 ((IntKind.i64.wrap ((IntKind.i64.wrap (x4 - (1 : Int))).tdiv (4 : Int))).toNat)).2)).length) then some (.inl (IntKind.i64.wrap ((IntKind.i64.wrap (x4 - (1 : Int))).tdiv (4 : Int)), (x5.set x4.toNat ((Ty.at (.pr (.int .i64) (.int .i64)) x5 ((IntKind.i64.wrap ((IntKind.i64.wrap (x4 - (1 : Int))).tdiv (4 : Int))).toNat)).1, (Ty.at (.pr (.int .i64) (.int .i64)) x5 ((IntKind.i64.wrap ((IntKind.i64.wrap (x4 - (1 : Int))).tdiv (4 : Int))).toNat)).2)).set ((IntKind.i64.wrap ((IntKind.i64.wrap (x4 - (1 : Int))).tdiv (4 : Int))).toNat) ((Ty.at (.pr (.int .i64) (.int .i64)) x5 x4.toNat).1, (Ty.at (.pr (.int .i64) (.int .i64)) x5 x4.toNat).2)))
                                            else none)
                                          else none)
                                        else none)
                                      else none)
                                    else none)
                                  else none)
                                else none)
                              else none)
                            else none)
                      else some (.inr x5)))
                    else none)
                  else none)
                else none)
              else none)
            else none)
      else some (.inr x5))
      (x2, x3))
def torporref12_Up : ((List (Int × Int)) × Int) → Option (List (Int × Int)) := torporref12_Up_g LOOPx torporref12_Before torporref12_Copy
theorem torporref12_Up_ok : FnOK Go.Proofs.Try.prog fn_torporref12_Up sg_torporref12_Up torporref12_Up := fn_of (P := Go.Proofs.Try.prog) (f := fn_torporref12_Up) (sg := sg_torporref12_Up) (sgs := [(fn_torporref12_Before, sg_torporref12_Before), (fn_torporref12_Copy, sg_torporref12_Copy)]) (Gd := fun LP gs => torporref12_Up_g LP gs.1 gs.2.1) (hn := []) (h := [(6, false, ⟨[(1, .it .i64), (5, .gr 0)], [.gs true (.pr (.int .i64) (.int .i64))]⟩)]) (torporref12_Before, torporref12_Copy, ()) ⟨torporref12_Before_ok, torporref12_Copy_ok, trivial⟩ (by kernel_rfl) (by kernel_rfl)

/-- torporref12.Down -/
abbrev fn_torporref12_Down : FuncId := 41
def sg_torporref12_Down : Sig := ⟨⟨[(0, .vs 0 (.pr (.int .i64) (.int .i64))), (1, .it .i64)], []⟩, [⟨[(0, .gr 0)], [.gs true (.pr (.int .i64) (.int .i64))]⟩]⟩
def torporref12_Down_g (LP : LPT) (torporref12_Before : ((Int × Int) × Int × Int) → Option (Bool)) (torporref12_Copy : (List (Int × Int)) → Option (List (Int × Int))) : ((List (Int × Int)) × Int) → Option (List (Int × Int)) := fun (x1, x2) =>
  (torporref12_Copy x1).bind fun x3 => 
    (LP (Int × List (Int × Int)) (List (Int × Int)) (fun (x4, x5) =>
      bif decide ((IntKind.i64.wrap ((IntKind.i64.wrap ((4 : Int) * x4)) + (1 : Int))) < (x5.length : Int)) then 
          (Option.bind (α := ((Int × Int) × List (Int × Int)) ⊕ ((Int × List (Int × Int)) ⊕ (List (Int × Int)))) (β := (Int × List (Int × Int)) ⊕ (List (Int × Int))) (LP ((Int × Int × Int) × List (Int × Int)) (((Int × Int) × List (Int × Int)) ⊕ ((Int × List (Int × Int)) ⊕ (List (Int × Int)))) (fun ((x6, x7, x8), x9) =>
              bif decide (x8 < (x9.length : Int)) then 
                  (bif decide (x8 ≤ (IntKind.i64.wrap ((IntKind.i64.wrap ((4 : Int) * x6)) + (4 : Int)))) then 
                      (bif decide (0 ≤ x8) && decide (x8 < (x9.length : Int)) then 
                        (bif decide (x8.toNat < x9.length) then 
                          (bif decide (0 ≤ x7) && decide (x7 < (x9.length : Int)) then 
                            (bif decide (x7.toNat < x9.length) then 
                              ((torporref12_Before (((Ty.at (.pr (.int .i64) (.int .i64)) x9 x8.toNat).1, (Ty.at (.pr (.int .i64) (.int .i64)) x9 x8.toNat).2), (Ty.at (.pr (.int .i64) (.int .i64)) x9 x7.toNat).1, (Ty.at (.pr (.int .i64) (.int .i64)) x9 x7.toNat).2)).bind fun x10 => 
                                (bif x10 then some (.inl ((x6, x8, IntKind.i64.wrap (x8 + (1 : Int))), x9))
                                else some (.inl ((x6, x7, IntKind.i64.wrap (x8 + (1 : Int))), x9))))
                              else none)
                            else none)
                          else none)
                        else none)
                  else some (.inr (.inl ((x6, x7), x9))))
              else some (.inr (.inl ((x6, x7), x9))))
              ((x4, IntKind.i64.wrap ((IntKind.i64.wrap ((4 : Int) * x4)) + (1 : Int)), IntKind.i64.wrap ((IntKind.i64.wrap ((IntKind.i64.wrap ((4 : Int) * x4)) + (1 : Int))) + (1 : Int))), x5))
            fun z => match z with
            | .inl ((x11, x12), x13) => bif decide (0 ≤ x12) && decide (x12 < (x13.length : Int)) then 
                (bif decide (x12.toNat < x13.length) then 
                  (bif decide (0 ≤ x11) && decide (x11 < (x13.length : Int)) then 
                    (bif decide (x11.toNat < x13.length) then 
                      ((torporref12_Before (((Ty.at (.pr (.int .i64) (.int .i64)) x13 x12.toNat).1, (Ty.at (.pr (.int .i64) (.int .i64)) x13 x12.toNat).2), (Ty.at (.pr (.int .i64) (.int .i64)) x13 x11.toNat).1, (Ty.at (.pr (.int .i64) (.int .i64)) x13 x11.toNat).2)).bind fun x14 => 
                        (bif !x14 then some (.inr x13)
                        else 
                          (bif decide (0 ≤ x12) && decide (x12 < (x13.length : Int)) then 
                            (bif decide (x12.toNat < x13.length) then 
                              (bif decide (0 ≤ x11) && decide (x11 < (x13.length : Int)) then 
                                (bif decide (x11.toNat < x13.length) then 
                                  (bif decide (0 ≤ x11) && decide (x11 < (x13.length : Int)) then 
                                    (bif decide (x11.toNat < x13.length) then 
                                      (bif decide (0 ≤ x12) && decide (x12 < ((x13.set x11.toNat ((Ty.at (.pr (.int .i64) (.int .i64)) x13 x12.toNat).1, (Ty.at (.pr (.int .i64) (.int .i64)) x13 x12.toNat).2)).length : Int)) then 
                                        (bif decide (x12.toNat < (x13.set x11.toNat ((Ty.at (.pr (.int .i64) (.int .i64)) x13 x12.toNat).1, (Ty.at (.pr (.int .i64) (.int .i64)) x13 x12.toNat).2)).length) then some (.inl (x12, (x13.set x11.toNat ((Ty.at (.pr (.int .i64) (.int .i64)) x13 x12.toNat).1, (Ty.at (.pr (.int .i64) (.int .i64)) x13 x12.toNat).2)).set x12.toNat ((Ty.at (.pr (.int .i64) (.int .i64)) x13 x11.toNat).1, (Ty.at (.pr (.int .i64) (.int .i64)) x13 x11.toNat).2)))
                                          else none)
                                        else none)
                                      else none)
                                    else none)
                                  else none)
                                else none)
                              else none)
                            else none)))
                      else none)
                    else none)
                  else none)
                else none
            | .inr o => some o)
      else some (.inr x5))
      (x2, x3))
def torporref12_Down : ((List (Int × Int)) × Int) → Option (List (Int × Int)) := torporref12_Down_g LOOPx torporref12_Before torporref12_Copy
theorem torporref12_Down_ok : FnOK Go.Proofs.Try.prog fn_torporref12_Down sg_torporref12_Down torporref12_Down := fn_of (P := Go.Proofs.Try.prog) (f := fn_torporref12_Down) (sg := sg_torporref12_Down) (sgs := [(fn_torporref12_Before, sg_torporref12_Before), (fn_torporref12_Copy, sg_torporref12_Copy)]) (Gd := fun LP gs => torporref12_Down_g LP gs.1 gs.2.1) (hn := []) (h := [(6, false, ⟨[(1, .it .i64), (5, .gr 0)], [.gs true (.pr (.int .i64) (.int .i64))]⟩), (17, true, ⟨[(1, .it .i64), (5, .gr 0), (6, .it .i64)], [.gs true (.pr (.int .i64) (.int .i64))]⟩), (20, false, ⟨[(1, .it .i64), (5, .gr 0), (6, .it .i64), (7, .it .i64)], [.gs true (.pr (.int .i64) (.int .i64))]⟩)]) (torporref12_Before, torporref12_Copy, ()) ⟨torporref12_Before_ok, torporref12_Copy_ok, trivial⟩ (by kernel_rfl) (by kernel_rfl)

/-- torporref12.Push -/
abbrev fn_torporref12_Push : FuncId := 10
def sg_torporref12_Push : Sig := ⟨⟨[(0, .vs 0 (.pr (.int .i64) (.int .i64))), (1, .ag [.it .i64, .it .i64])], []⟩, [⟨[(0, .vs 0 (.pr (.int .i64) (.int .i64))), (1, .it .i64)], []⟩]⟩
def torporref12_Push_g (LP : LPT) (torporref12_Right : (List (Int × Int)) → Option (Bool)) (torporref12_Place : ((List (Int × Int)) × Int) → Option (Int)) (torporref12_Copy : (List (Int × Int)) → Option (List (Int × Int))) (torporref12_Up : ((List (Int × Int)) × Int) → Option (List (Int × Int))) : ((List (Int × Int)) × Int × Int) → Option ((List (Int × Int)) × Int) := fun (x1, x2, x3) =>
  (torporref12_Right x1).bind fun x4 => 
    (bif !(!x4) then 
        (bif !(decide (x2 < (0 : Int))) then 
            (bif decide (x3 < (0 : Int)) then some (x1, 1)
            else 
              ((torporref12_Place (x1, x3)).bind fun x5 => 
                (bif decide ((0 : Int) ≤ x5) then some (x1, 8)
                else 
                  (bif decide ((12 : Int) ≤ (x1.length : Int)) then some (x1, 6)
                  else 
                    ((torporref12_Copy x1).bind fun x6 => 
                      (bif decide ((x6.length + ([(x2, x3)]).length) * 16 ≤ 140737488355328) then 
                        ((torporref12_Up (x6 ++ ([(x2, x3)]), (x1.length : Int))).bind fun x7 => some (x7, 0))
                        else none))))))
        else some (x1, 1))
    else some (x1, 1))
def torporref12_Push : ((List (Int × Int)) × Int × Int) → Option ((List (Int × Int)) × Int) := torporref12_Push_g LOOPx torporref12_Right torporref12_Place torporref12_Copy torporref12_Up
theorem torporref12_Push_ok : FnOK Go.Proofs.Try.prog fn_torporref12_Push sg_torporref12_Push torporref12_Push := fn_of (P := Go.Proofs.Try.prog) (f := fn_torporref12_Push) (sg := sg_torporref12_Push) (sgs := [(fn_torporref12_Right, sg_torporref12_Right), (fn_torporref12_Place, sg_torporref12_Place), (fn_torporref12_Copy, sg_torporref12_Copy), (fn_torporref12_Up, sg_torporref12_Up)]) (Gd := fun LP gs => torporref12_Push_g LP gs.1 gs.2.1 gs.2.2.1 gs.2.2.2.1) (hn := []) (h := []) (torporref12_Right, torporref12_Place, torporref12_Copy, torporref12_Up, ()) ⟨torporref12_Right_ok, torporref12_Place_ok, torporref12_Copy_ok, torporref12_Up_ok, trivial⟩ (by kernel_rfl) (by kernel_rfl)

/-- torporref12.without -/
abbrev fn_torporref12_without : FuncId := 31
def sg_torporref12_without : Sig := ⟨⟨[(0, .vs 0 (.pr (.int .i64) (.int .i64))), (1, .it .i64)], []⟩, [⟨[(0, .gr 0)], [.gs true (.pr (.int .i64) (.int .i64))]⟩]⟩
def torporref12_without_g (LP : LPT) (torporref12_Copy : (List (Int × Int)) → Option (List (Int × Int))) (torporref12_Up : ((List (Int × Int)) × Int) → Option (List (Int × Int))) (torporref12_Down : ((List (Int × Int)) × Int) → Option (List (Int × Int))) : ((List (Int × Int)) × Int) → Option (List (Int × Int)) := fun (x1, x2) =>
  bif (decide (0 ≤ IntKind.i64.wrap ((x1.length : Int) - (1 : Int))) && decide (IntKind.i64.wrap ((x1.length : Int) - (1 : Int)) ≤ (x1.length : Int))) && true then 
    ((torporref12_Copy ((x1.take ((IntKind.i64.wrap ((x1.length : Int) - (1 : Int))).toNat)).drop 0)).bind fun x3 => 
      (bif decide (x2 = (IntKind.i64.wrap ((x1.length : Int) - (1 : Int)))) then some x3
      else 
        (bif decide (0 ≤ IntKind.i64.wrap ((x1.length : Int) - (1 : Int))) && decide (IntKind.i64.wrap ((x1.length : Int) - (1 : Int)) < (x1.length : Int)) then 
          (bif decide (0 ≤ x2) && decide (x2 < (x3.length : Int)) then 
            (bif decide (x2.toNat < x3.length) then 
              ((torporref12_Down (x3.set x2.toNat ((Ty.at (.pr (.int .i64) (.int .i64)) x1 ((IntKind.i64.wrap ((x1.length : Int) - (1 : Int))).toNat)).1, (Ty.at (.pr (.int .i64) (.int .i64)) x1 ((IntKind.i64.wrap ((x1.length : Int) - (1 : Int))).toNat)).2), x2)).bind fun x4 => 
                ((torporref12_Up (x4, x2)).bind fun x5 => some x5))
              else none)
            else none)
          else none)))
    else none
def torporref12_without : ((List (Int × Int)) × Int) → Option (List (Int × Int)) := torporref12_without_g LOOPx torporref12_Copy torporref12_Up torporref12_Down
theorem torporref12_without_ok : FnOK Go.Proofs.Try.prog fn_torporref12_without sg_torporref12_without torporref12_without := fn_of (P := Go.Proofs.Try.prog) (f := fn_torporref12_without) (sg := sg_torporref12_without) (sgs := [(fn_torporref12_Copy, sg_torporref12_Copy), (fn_torporref12_Up, sg_torporref12_Up), (fn_torporref12_Down, sg_torporref12_Down)]) (Gd := fun LP gs => torporref12_without_g LP gs.1 gs.2.1 gs.2.2.1) (hn := []) (h := []) (torporref12_Copy, torporref12_Up, torporref12_Down, ()) ⟨torporref12_Copy_ok, torporref12_Up_ok, torporref12_Down_ok, trivial⟩ (by kernel_rfl) (by kernel_rfl)

/-- torporref12.Pop -/
abbrev fn_torporref12_Pop : FuncId := 12
def sg_torporref12_Pop : Sig := ⟨⟨[(0, .vs 0 (.pr (.int .i64) (.int .i64)))], []⟩, [⟨[(0, .vs 0 (.pr (.int .i64) (.int .i64))), (1, .ag [.it .i64, .it .i64]), (2, .it .i64)], []⟩]⟩
def torporref12_Pop_g (LP : LPT) (torporref12_Right : (List (Int × Int)) → Option (Bool)) (torporref12_without : ((List (Int × Int)) × Int) → Option (List (Int × Int))) : (List (Int × Int)) → Option ((List (Int × Int)) × (Int × Int) × Int) := fun x1 =>
  (torporref12_Right x1).bind fun x2 => 
    (bif !x2 then some (x1, (0, 0), 1)
    else 
      (bif decide ((x1.length : Int) = (0 : Int)) then some (x1, (0, 0), 7)
      else 
        (bif decide (0 ≤ 0) && decide (0 < (x1.length : Int)) then 
          ((torporref12_without (x1, 0)).bind fun x3 => some (x3, ((Ty.at (.pr (.int .i64) (.int .i64)) x1 ((0 : Int).toNat)).1, (Ty.at (.pr (.int .i64) (.int .i64)) x1 ((0 : Int).toNat)).2), 0))
          else none)))
def torporref12_Pop : (List (Int × Int)) → Option ((List (Int × Int)) × (Int × Int) × Int) := torporref12_Pop_g LOOPx torporref12_Right torporref12_without
theorem torporref12_Pop_ok : FnOK Go.Proofs.Try.prog fn_torporref12_Pop sg_torporref12_Pop torporref12_Pop := fn_of (P := Go.Proofs.Try.prog) (f := fn_torporref12_Pop) (sg := sg_torporref12_Pop) (sgs := [(fn_torporref12_Right, sg_torporref12_Right), (fn_torporref12_without, sg_torporref12_without)]) (Gd := fun LP gs => torporref12_Pop_g LP gs.1 gs.2.1) (hn := []) (h := []) (torporref12_Right, torporref12_without, ()) ⟨torporref12_Right_ok, torporref12_without_ok, trivial⟩ (by kernel_rfl) (by kernel_rfl)

/-- torporref12.Drop -/
abbrev fn_torporref12_Drop : FuncId := 14
def sg_torporref12_Drop : Sig := ⟨⟨[(0, .vs 0 (.pr (.int .i64) (.int .i64))), (1, .it .i64)], []⟩, [⟨[(0, .vs 0 (.pr (.int .i64) (.int .i64))), (1, .it .i64)], []⟩]⟩
def torporref12_Drop_g (LP : LPT) (torporref12_Right : (List (Int × Int)) → Option (Bool)) (torporref12_Place : ((List (Int × Int)) × Int) → Option (Int)) (torporref12_without : ((List (Int × Int)) × Int) → Option (List (Int × Int))) : ((List (Int × Int)) × Int) → Option ((List (Int × Int)) × Int) := fun (x1, x2) =>
  (torporref12_Right x1).bind fun x3 => 
    (bif !x3 then some (x1, 1)
    else 
      ((torporref12_Place (x1, x2)).bind fun x4 => 
        (bif decide (x4 < (0 : Int)) then some (x1, 7)
        else 
          ((torporref12_Place (x1, x2)).bind fun x5 => 
            ((torporref12_without (x1, x5)).bind fun x6 => some (x6, 0))))))
def torporref12_Drop : ((List (Int × Int)) × Int) → Option ((List (Int × Int)) × Int) := torporref12_Drop_g LOOPx torporref12_Right torporref12_Place torporref12_without
theorem torporref12_Drop_ok : FnOK Go.Proofs.Try.prog fn_torporref12_Drop sg_torporref12_Drop torporref12_Drop := fn_of (P := Go.Proofs.Try.prog) (f := fn_torporref12_Drop) (sg := sg_torporref12_Drop) (sgs := [(fn_torporref12_Right, sg_torporref12_Right), (fn_torporref12_Place, sg_torporref12_Place), (fn_torporref12_without, sg_torporref12_without)]) (Gd := fun LP gs => torporref12_Drop_g LP gs.1 gs.2.1 gs.2.2.1) (hn := []) (h := []) (torporref12_Right, torporref12_Place, torporref12_without, ()) ⟨torporref12_Right_ok, torporref12_Place_ok, torporref12_without_ok, trivial⟩ (by kernel_rfl) (by kernel_rfl)

/-- torporref12.Due -/
abbrev fn_torporref12_Due : FuncId := 19
def sg_torporref12_Due : Sig := ⟨⟨[(0, .vs 0 (.pr (.int .i64) (.int .i64))), (1, .it .i64)], []⟩, [⟨[(0, .vs 0 (.pr (.int .i64) (.int .i64))), (1, .gr 0), (2, .it .i64)], [.gs true (.int .i64)]⟩]⟩
def torporref12_Due_g (LP : LPT) (torporref12_Right : (List (Int × Int)) → Option (Bool)) (torporref12_Pop : (List (Int × Int)) → Option ((List (Int × Int)) × (Int × Int) × Int)) : ((List (Int × Int)) × Int) → Option (((List (Int × Int)) × Int) × List Int) := fun (x1, x2) =>
  (torporref12_Right x1).bind fun x3 => 
    (bif !x3 then some ((x1, 1), [])
    else 
      (LP (((List (Int × Int)) × Int) × List Int) (((List (Int × Int)) × Int) × List Int) (fun ((x4, x5), x6) =>
        bif decide ((0 : Int) < (x4.length : Int)) then 
            (bif decide (0 ≤ 0) && decide (0 < (x4.length : Int)) then 
              (bif decide (((Ty.at (.pr (.int .i64) (.int .i64)) x4 ((0 : Int).toNat)).1) ≤ x5) then 
                  ((torporref12_Pop x4).bind fun (x7, (x8, x9), x10) => 
                    (bif decide ((x6.length + ([x9]).length) * 8 ≤ 140737488355328) then some (.inl ((x7, x5), x6 ++ ([x9])))
                      else none))
              else some (.inr ((x4, 0), x6)))
              else none)
        else some (.inr ((x4, 0), x6)))
        ((x1, x2), [])))
def torporref12_Due : ((List (Int × Int)) × Int) → Option (((List (Int × Int)) × Int) × List Int) := torporref12_Due_g LOOPx torporref12_Right torporref12_Pop
theorem torporref12_Due_ok : FnOK Go.Proofs.Try.prog fn_torporref12_Due sg_torporref12_Due torporref12_Due := fn_of (P := Go.Proofs.Try.prog) (f := fn_torporref12_Due) (sg := sg_torporref12_Due) (sgs := [(fn_torporref12_Right, sg_torporref12_Right), (fn_torporref12_Pop, sg_torporref12_Pop)]) (Gd := fun LP gs => torporref12_Due_g LP gs.1 gs.2.1) (hn := []) (h := [(14, false, ⟨[(0, .vs 0 (.pr (.int .i64) (.int .i64))), (1, .it .i64), (7, .gr 0)], [.gs true (.int .i64)]⟩)]) (torporref12_Right, torporref12_Pop, ()) ⟨torporref12_Right_ok, torporref12_Pop_ok, trivial⟩ (by kernel_rfl) (by kernel_rfl)

/-- torporref12.Sorted -/
abbrev fn_torporref12_Sorted : FuncId := 22
def sg_torporref12_Sorted : Sig := ⟨⟨[(0, .vs 0 (.pr (.int .i64) (.int .i64)))], []⟩, [⟨[(0, .gr 0)], [.gs true (.pr (.int .i64) (.int .i64))]⟩]⟩
def torporref12_Sorted_g (LP : LPT) (torporref12_Before : ((Int × Int) × Int × Int) → Option (Bool)) (torporref12_Right : (List (Int × Int)) → Option (Bool)) : (List (Int × Int)) → Option (List (Int × Int)) := fun x1 =>
  (torporref12_Right x1).bind fun x2 => 
    (bif !x2 then some ([])
    else 
      (LP (((List (Int × Int)) × Int) × List (Int × Int)) (List (Int × Int)) (fun ((x3, x4), x5) =>
        bif decide (x4 < (x3.length : Int)) then 
            (Option.bind (α := (((List (Int × Int)) × Int × Int) × List (Int × Int)) ⊕ ((((List (Int × Int)) × Int) × List (Int × Int)) ⊕ (List (Int × Int)))) (β := (((List (Int × Int)) × Int) × List (Int × Int)) ⊕ (List (Int × Int))) (LP (((List (Int × Int)) × Int × Int) × List (Int × Int)) ((((List (Int × Int)) × Int × Int) × List (Int × Int)) ⊕ ((((List (Int × Int)) × Int) × List (Int × Int)) ⊕ (List (Int × Int)))) (fun ((x6, x7, x8), x9) =>
                bif decide ((0 : Int) < x8) then 
                    (bif decide (0 ≤ x7) && decide (x7 < (x6.length : Int)) then 
                      (bif decide (0 ≤ IntKind.i64.wrap (x8 - (1 : Int))) && decide (IntKind.i64.wrap (x8 - (1 : Int)) < (x9.length : Int)) then 
                        (bif decide ((IntKind.i64.wrap (x8 - (1 : Int))).toNat < x9.length) then 
                          ((torporref12_Before (((Ty.at (.pr (.int .i64) (.int .i64)) x6 x7.toNat).1, (Ty.at (.pr (.int .i64) (.int .i64)) x6 x7.toNat).2), (Ty.at (.pr (.int .i64) (.int .i64)) x9 ((IntKind.i64.wrap (x8 - (1 : Int))).toNat)).1, (Ty.at (.pr (.int .i64) (.int .i64)) x9 ((IntKind.i64.wrap (x8 - (1 : Int))).toNat)).2)).bind fun x10 => 
                            (bif x10 then some (.inl ((x6, x7, IntKind.i64.wrap (x8 - (1 : Int))), x9))
                            else some (.inr (.inl ((x6, x7, x8), x9)))))
                          else none)
                        else none)
                      else none)
                else some (.inr (.inl ((x6, x7, x8), x9))))
                ((x3, x4, (x5.length : Int)), x5))
              fun z => match z with
              | .inl ((x11, x12, x13), x14) => bif (decide (0 ≤ x13) && decide (x13 ≤ (x14.length : Int))) && true then 
                  (bif decide (0 ≤ x12) && decide (x12 < (x11.length : Int)) then 
                    (bif decide (0 ≤ x13) && decide (x13 ≤ (x14.length : Int)) then 
                      (bif decide (0 + (x13.toNat - 0) ≤ x14.length) && decide ((([] : List (Int × Int)).length + ((x14.drop 0).take (x13.toNat - 0)).length) * 16 ≤ 140737488355328) then 
                        (bif decide (((([] : List (Int × Int)) ++ ((x14.drop 0).take (x13.toNat - 0))).length + ([((Ty.at (.pr (.int .i64) (.int .i64)) x11 x12.toNat).1, (Ty.at (.pr (.int .i64) (.int .i64)) x11 x12.toNat).2)]).length) * 16 ≤ 140737488355328) then 
                          (bif decide (x13.toNat + (x14.length - x13.toNat) ≤ x14.length) && decide ((((([] : List (Int × Int)) ++ ((x14.drop 0).take (x13.toNat - 0))) ++ ([((Ty.at (.pr (.int .i64) (.int .i64)) x11 x12.toNat).1, (Ty.at (.pr (.int .i64) (.int .i64)) x11 x12.toNat).2)])).length + ((x14.drop x13.toNat).take (x14.length - x13.toNat)).length) * 16 ≤ 140737488355328) then some (.inl ((x11, IntKind.i64.wrap (x12 + (1 : Int))), ((([] : List (Int × Int)) ++ ((x14.drop 0).take (x13.toNat - 0))) ++ ([((Ty.at (.pr (.int .i64) (.int .i64)) x11 x12.toNat).1, (Ty.at (.pr (.int .i64) (.int .i64)) x11 x12.toNat).2)])) ++ ((x14.drop x13.toNat).take (x14.length - x13.toNat))))
                            else none)
                          else none)
                        else none)
                      else none)
                    else none)
                  else none
              | .inr o => some o)
        else some (.inr x5))
        ((x1, 0), [])))
def torporref12_Sorted : (List (Int × Int)) → Option (List (Int × Int)) := torporref12_Sorted_g LOOPx torporref12_Before torporref12_Right
theorem torporref12_Sorted_ok : FnOK Go.Proofs.Try.prog fn_torporref12_Sorted sg_torporref12_Sorted torporref12_Sorted := fn_of (P := Go.Proofs.Try.prog) (f := fn_torporref12_Sorted) (sg := sg_torporref12_Sorted) (sgs := [(fn_torporref12_Before, sg_torporref12_Before), (fn_torporref12_Right, sg_torporref12_Right)]) (Gd := fun LP gs => torporref12_Sorted_g LP gs.1 gs.2.1) (hn := [(37, .pr (.int .i64) (.int .i64)), (43, .pr (.int .i64) (.int .i64)), (47, .pr (.int .i64) (.int .i64))]) (h := [(16, false, ⟨[(0, .vs 0 (.pr (.int .i64) (.int .i64))), (3, .gr 0), (4, .it .i64)], [.gs true (.pr (.int .i64) (.int .i64))]⟩), (28, true, ⟨[(0, .vs 0 (.pr (.int .i64) (.int .i64))), (3, .gr 0), (4, .it .i64), (5, .it .i64)], [.gs true (.pr (.int .i64) (.int .i64))]⟩), (29, false, ⟨[(0, .vs 0 (.pr (.int .i64) (.int .i64))), (3, .gr 0), (4, .it .i64), (5, .it .i64)], [.gs true (.pr (.int .i64) (.int .i64))]⟩)]) (torporref12_Before, torporref12_Right, ()) ⟨torporref12_Before_ok, torporref12_Right_ok, trivial⟩ (by kernel_rfl) (by kernel_rfl)

/-- cmp.isNaN[int64] -/
abbrev fn_cmp_isNaN_int64 : FuncId := 51
def sg_cmp_isNaN_int64 : Sig := ⟨⟨[(0, .it .i64)], []⟩, [⟨[(0, .bo)], []⟩]⟩
def cmp_isNaN_int64_g (LP : LPT) : Int → Option (Bool) := fun x1 =>
  some (!decide (x1 = x1))
def cmp_isNaN_int64 : Int → Option (Bool) := cmp_isNaN_int64_g LOOPx
theorem cmp_isNaN_int64_ok : FnOK Go.Proofs.Try.prog fn_cmp_isNaN_int64 sg_cmp_isNaN_int64 cmp_isNaN_int64 := fn_of (P := Go.Proofs.Try.prog) (f := fn_cmp_isNaN_int64) (sg := sg_cmp_isNaN_int64) (sgs := []) (Gd := fun LP gs => cmp_isNaN_int64_g LP) (hn := []) (h := []) (()) trivial (by kernel_rfl) (by kernel_rfl)

/-- cmp.isNaN[int] -/
abbrev fn_cmp_isNaN_int : FuncId := 52
def sg_cmp_isNaN_int : Sig := ⟨⟨[(0, .it .i64)], []⟩, [⟨[(0, .bo)], []⟩]⟩
def cmp_isNaN_int_g (LP : LPT) : Int → Option (Bool) := fun x1 =>
  some (!decide (x1 = x1))
def cmp_isNaN_int : Int → Option (Bool) := cmp_isNaN_int_g LOOPx
theorem cmp_isNaN_int_ok : FnOK Go.Proofs.Try.prog fn_cmp_isNaN_int sg_cmp_isNaN_int cmp_isNaN_int := fn_of (P := Go.Proofs.Try.prog) (f := fn_cmp_isNaN_int) (sg := sg_cmp_isNaN_int) (sgs := []) (Gd := fun LP gs => cmp_isNaN_int_g LP) (hn := []) (h := []) (()) trivial (by kernel_rfl) (by kernel_rfl)

/-- cmp.Compare[int64] -/
abbrev fn_cmp_Compare_int64 : FuncId := 46
def sg_cmp_Compare_int64 : Sig := ⟨⟨[(0, .it .i64), (1, .it .i64)], []⟩, [⟨[(0, .it .i64)], []⟩]⟩
def cmp_Compare_int64_g (LP : LPT) (cmp_isNaN_int64 : Int → Option (Bool)) : (Int × Int) → Option (Int) := fun (x1, x2) =>
  (cmp_isNaN_int64 x1).bind fun x3 => 
    ((cmp_isNaN_int64 x2).bind fun x4 => 
      (bif x3 then 
          (bif x4 then some (0 : Int)
          else some (-1))
      else 
        (bif x4 then some (1 : Int)
        else 
          (bif decide (x1 < x2) then some (-1)
          else 
            (bif decide (x2 < x1) then some (1 : Int)
            else some (0 : Int))))))
def cmp_Compare_int64 : (Int × Int) → Option (Int) := cmp_Compare_int64_g LOOPx cmp_isNaN_int64
theorem cmp_Compare_int64_ok : FnOK Go.Proofs.Try.prog fn_cmp_Compare_int64 sg_cmp_Compare_int64 cmp_Compare_int64 := fn_of (P := Go.Proofs.Try.prog) (f := fn_cmp_Compare_int64) (sg := sg_cmp_Compare_int64) (sgs := [(fn_cmp_isNaN_int64, sg_cmp_isNaN_int64)]) (Gd := fun LP gs => cmp_Compare_int64_g LP gs.1) (hn := []) (h := []) (cmp_isNaN_int64, ()) ⟨cmp_isNaN_int64_ok, trivial⟩ (by kernel_rfl) (by kernel_rfl)

/-- cmp.Compare[int] -/
abbrev fn_cmp_Compare_int : FuncId := 47
def sg_cmp_Compare_int : Sig := ⟨⟨[(0, .it .i64), (1, .it .i64)], []⟩, [⟨[(0, .it .i64)], []⟩]⟩
def cmp_Compare_int_g (LP : LPT) (cmp_isNaN_int : Int → Option (Bool)) : (Int × Int) → Option (Int) := fun (x1, x2) =>
  (cmp_isNaN_int x1).bind fun x3 => 
    ((cmp_isNaN_int x2).bind fun x4 => 
      (bif x3 then 
          (bif x4 then some (0 : Int)
          else some (-1))
      else 
        (bif x4 then some (1 : Int)
        else 
          (bif decide (x1 < x2) then some (-1)
          else 
            (bif decide (x2 < x1) then some (1 : Int)
            else some (0 : Int))))))
def cmp_Compare_int : (Int × Int) → Option (Int) := cmp_Compare_int_g LOOPx cmp_isNaN_int
theorem cmp_Compare_int_ok : FnOK Go.Proofs.Try.prog fn_cmp_Compare_int sg_cmp_Compare_int cmp_Compare_int := fn_of (P := Go.Proofs.Try.prog) (f := fn_cmp_Compare_int) (sg := sg_cmp_Compare_int) (sgs := [(fn_cmp_isNaN_int, sg_cmp_isNaN_int)]) (Gd := fun LP gs => cmp_Compare_int_g LP gs.1) (hn := []) (h := []) (cmp_isNaN_int, ()) ⟨cmp_isNaN_int_ok, trivial⟩ (by kernel_rfl) (by kernel_rfl)

/-- cmp.Or[int] -/
abbrev fn_cmp_Or_int : FuncId := 45
def sg_cmp_Or_int : Sig := ⟨⟨[(0, .vs 0 (.int .i64))], []⟩, [⟨[(0, .it .i64)], []⟩]⟩
def cmp_Or_int_g (LP : LPT) : (List Int) → Option (Int) := fun x1 =>
  LP (Int × (List Int) × Int × Int) (Int) (fun (x2, x3, x4, x5) =>
    bif decide (x5 < x4) then 
        (bif decide (0 ≤ x5) && decide (x5 < (x3.length : Int)) then 
          (bif !decide ((Ty.at (.int .i64) x3 x5.toNat) = x2) then some (.inr (Ty.at (.int .i64) x3 x5.toNat))
          else some (.inl (x2, x3, x4, IntKind.i64.wrap (x5 + (1 : Int)))))
          else none)
    else some (.inr x2))
    (0, x1, (x1.length : Int), 0)
def cmp_Or_int : (List Int) → Option (Int) := cmp_Or_int_g LOOPx
theorem cmp_Or_int_ok : FnOK Go.Proofs.Try.prog fn_cmp_Or_int sg_cmp_Or_int cmp_Or_int := fn_of (P := Go.Proofs.Try.prog) (f := fn_cmp_Or_int) (sg := sg_cmp_Or_int) (sgs := []) (Gd := fun LP gs => cmp_Or_int_g LP) (hn := []) (h := [(8, false, ⟨[(3, .it .i64), (6, .vs 0 (.int .i64)), (7, .it .i64), (8, .it .i64)], []⟩)]) (()) trivial (by kernel_rfl) (by kernel_rfl)

/-- timer.compare -/
abbrev fn_timer_compare : FuncId := 37
def sg_timer_compare : Sig := ⟨⟨[(0, .ag [.it .i64, .it .i64]), (1, .ag [.it .i64, .it .i64])], []⟩, [⟨[(0, .it .i64)], []⟩]⟩
def timer_compare_g (LP : LPT) (cmp_Compare_int64 : (Int × Int) → Option (Int)) (cmp_Compare_int : (Int × Int) → Option (Int)) (cmp_Or_int : (List Int) → Option (Int)) : ((Int × Int) × Int × Int) → Option (Int) := fun ((x1, x2), x3, x4) =>
  (cmp_Compare_int64 (x1, x3)).bind fun x5 => 
    ((cmp_Compare_int (x2, x4)).bind fun x6 => 
      ((cmp_Or_int ([x5, x6])).bind fun x7 => some x7))
def timer_compare : ((Int × Int) × Int × Int) → Option (Int) := timer_compare_g LOOPx cmp_Compare_int64 cmp_Compare_int cmp_Or_int
theorem timer_compare_ok : FnOK Go.Proofs.Try.prog fn_timer_compare sg_timer_compare timer_compare := fn_of (P := Go.Proofs.Try.prog) (f := fn_timer_compare) (sg := sg_timer_compare) (sgs := [(fn_cmp_Compare_int64, sg_cmp_Compare_int64), (fn_cmp_Compare_int, sg_cmp_Compare_int), (fn_cmp_Or_int, sg_cmp_Or_int)]) (Gd := fun LP gs => timer_compare_g LP gs.1 gs.2.1 gs.2.2.1) (hn := []) (h := []) (cmp_Compare_int64, cmp_Compare_int, cmp_Or_int, ()) ⟨cmp_Compare_int64_ok, cmp_Compare_int_ok, cmp_Or_int_ok, trivial⟩ (by kernel_rfl) (by kernel_rfl)

/-- timer.before -/
abbrev fn_timer_before : FuncId := 33
def sg_timer_before : Sig := ⟨⟨[(0, .ag [.it .i64, .it .i64]), (1, .ag [.it .i64, .it .i64])], []⟩, [⟨[(0, .bo)], []⟩]⟩
def timer_before_g (LP : LPT) (timer_compare : ((Int × Int) × Int × Int) → Option (Int)) : ((Int × Int) × Int × Int) → Option (Bool) := fun ((x1, x2), x3, x4) =>
  (timer_compare ((x1, x2), x3, x4)).bind fun x5 => some (decide (x5 < (0 : Int)))
def timer_before : ((Int × Int) × Int × Int) → Option (Bool) := timer_before_g LOOPx timer_compare
theorem timer_before_ok : FnOK Go.Proofs.Try.prog fn_timer_before sg_timer_before timer_before := fn_of (P := Go.Proofs.Try.prog) (f := fn_timer_before) (sg := sg_timer_before) (sgs := [(fn_timer_compare, sg_timer_compare)]) (Gd := fun LP gs => timer_before_g LP gs.1) (hn := []) (h := []) (timer_compare, ()) ⟨timer_compare_ok, trivial⟩ (by kernel_rfl) (by kernel_rfl)

/-- timer.parent -/
abbrev fn_timer_parent : FuncId := 34
def sg_timer_parent : Sig := ⟨⟨[(0, .it .i64)], []⟩, [⟨[(0, .it .i64)], []⟩]⟩
def timer_parent_g (LP : LPT) : Int → Option (Int) := fun x1 =>
  bif !decide ((4 : Int) = 0) then some (IntKind.i64.wrap ((IntKind.i64.wrap (x1 - (1 : Int))).tdiv (4 : Int)))
    else none
def timer_parent : Int → Option (Int) := timer_parent_g LOOPx
theorem timer_parent_ok : FnOK Go.Proofs.Try.prog fn_timer_parent sg_timer_parent timer_parent := fn_of (P := Go.Proofs.Try.prog) (f := fn_timer_parent) (sg := sg_timer_parent) (sgs := []) (Gd := fun LP gs => timer_parent_g LP) (hn := []) (h := []) (()) trivial (by kernel_rfl) (by kernel_rfl)

/-- timer.odd -/
abbrev fn_timer_odd : FuncId := 25
def sg_timer_odd : Sig := ⟨⟨[(0, .ag [.it .i64, .it .i64])], []⟩, [⟨[(0, .bo)], []⟩]⟩
def timer_odd_g (LP : LPT) : (Int × Int) → Option (Bool) := fun (x1, x2) =>
  bif !(decide (x1 < (0 : Int))) then some (decide (x2 < (0 : Int)))
  else some true
def timer_odd : (Int × Int) → Option (Bool) := timer_odd_g LOOPx
theorem timer_odd_ok : FnOK Go.Proofs.Try.prog fn_timer_odd sg_timer_odd timer_odd := fn_of (P := Go.Proofs.Try.prog) (f := fn_timer_odd) (sg := sg_timer_odd) (sgs := []) (Gd := fun LP gs => timer_odd_g LP) (hn := []) (h := []) (()) trivial (by kernel_rfl) (by kernel_rfl)

/-- timer.place$1 -/
abbrev fn_timer_place_1 : FuncId := 39
def sg_timer_place_1 : Sig := ⟨⟨[(0, .ag [.it .i64, .it .i64]), (1, .pe [.it .i64] 0)], []⟩, [⟨[(0, .bo)], []⟩]⟩
def timer_place_1_g (LP : LPT) : ((Int × Int) × Int) → Option (Bool) := fun ((x1, x2), x3) =>
  some (decide (x2 = x3))
def timer_place_1 : ((Int × Int) × Int) → Option (Bool) := timer_place_1_g LOOPx
theorem timer_place_1_ok : FnOK Go.Proofs.Try.prog fn_timer_place_1 sg_timer_place_1 timer_place_1 := fn_of (P := Go.Proofs.Try.prog) (f := fn_timer_place_1) (sg := sg_timer_place_1) (sgs := []) (Gd := fun LP gs => timer_place_1_g LP) (hn := []) (h := []) (()) trivial (by kernel_rfl) (by kernel_rfl)

/-- slices.IndexFunc[[]api.Timer,api.Timer] -/
abbrev fn_IndexFunc_place : FuncId := 38
def sg_IndexFunc_place : Sig := ⟨⟨[(0, .vs 0 (.pr (.int .i64) (.int .i64))), (1, .fn 39 [] [.pe [.it .i64] 0])], []⟩, [⟨[(0, .it .i64)], []⟩]⟩
def IndexFunc_place_g (LP : LPT) (timer_place_1 : ((Int × Int) × Int) → Option (Bool)) : ((List (Int × Int)) × Int) → Option (Int) := fun (x1, x2) =>
  LP ((List (Int × Int)) × Int × Int × Int) (Int) (fun (x3, x4, x5, x6) =>
    bif decide (x6 < x5) then 
        (bif decide (0 ≤ x6) && decide (x6 < (x3.length : Int)) then 
          ((timer_place_1 (((Ty.at (.pr (.int .i64) (.int .i64)) x3 x6.toNat).1, (Ty.at (.pr (.int .i64) (.int .i64)) x3 x6.toNat).2), x4)).bind fun x7 => 
            (bif x7 then some (.inr x6)
            else some (.inl (x3, x4, x5, IntKind.i64.wrap (x6 + (1 : Int))))))
          else none)
    else some (.inr (-1)))
    (x1, x2, (x1.length : Int), 0)
def IndexFunc_place : ((List (Int × Int)) × Int) → Option (Int) := IndexFunc_place_g LOOPx timer_place_1
theorem IndexFunc_place_ok : FnOK Go.Proofs.Try.prog fn_IndexFunc_place sg_IndexFunc_place IndexFunc_place := fn_of (P := Go.Proofs.Try.prog) (f := fn_IndexFunc_place) (sg := sg_IndexFunc_place) (sgs := [(fn_timer_place_1, sg_timer_place_1)]) (Gd := fun LP gs => IndexFunc_place_g LP gs.1) (hn := []) (h := [(6, false, ⟨[(0, .vs 0 (.pr (.int .i64) (.int .i64))), (1, .fn 39 [] [.pe [.it .i64] 0]), (7, .it .i64), (8, .it .i64)], []⟩)]) (timer_place_1, ()) ⟨timer_place_1_ok, trivial⟩ (by kernel_rfl) (by kernel_rfl)

/-- timer.place -/
abbrev fn_timer_place : FuncId := 26
def sg_timer_place : Sig := ⟨⟨[(0, .vs 0 (.pr (.int .i64) (.int .i64))), (1, .it .i64)], []⟩, [⟨[(0, .it .i64)], []⟩]⟩
def timer_place_g (LP : LPT) (IndexFunc_place : ((List (Int × Int)) × Int) → Option (Int)) : ((List (Int × Int)) × Int) → Option (Int) := fun (x1, x2) =>
  (IndexFunc_place (x1, x2)).bind fun x3 => some x3
def timer_place : ((List (Int × Int)) × Int) → Option (Int) := timer_place_g LOOPx IndexFunc_place
theorem timer_place_ok : FnOK Go.Proofs.Try.prog fn_timer_place sg_timer_place timer_place := fn_of (P := Go.Proofs.Try.prog) (f := fn_timer_place) (sg := sg_timer_place) (sgs := [(fn_IndexFunc_place, sg_IndexFunc_place)]) (Gd := fun LP gs => timer_place_g LP gs.1) (hn := []) (h := []) (IndexFunc_place, ()) ⟨IndexFunc_place_ok, trivial⟩ (by kernel_rfl) (by kernel_rfl)

/-- slices.IndexFunc[[]api.Timer,api.Timer] -/
abbrev fn_IndexFunc_odd : FuncId := 38
def sg_IndexFunc_odd : Sig := ⟨⟨[(0, .vs 0 (.pr (.int .i64) (.int .i64))), (1, .fn 25 [] [])], []⟩, [⟨[(0, .it .i64)], []⟩]⟩
def IndexFunc_odd_g (LP : LPT) (timer_odd : (Int × Int) → Option (Bool)) : (List (Int × Int)) → Option (Int) := fun x1 =>
  LP ((List (Int × Int)) × Int × Int) (Int) (fun (x2, x3, x4) =>
    bif decide (x4 < x3) then 
        (bif decide (0 ≤ x4) && decide (x4 < (x2.length : Int)) then 
          ((timer_odd ((Ty.at (.pr (.int .i64) (.int .i64)) x2 x4.toNat).1, (Ty.at (.pr (.int .i64) (.int .i64)) x2 x4.toNat).2)).bind fun x5 => 
            (bif x5 then some (.inr x4)
            else some (.inl (x2, x3, IntKind.i64.wrap (x4 + (1 : Int))))))
          else none)
    else some (.inr (-1)))
    (x1, (x1.length : Int), 0)
def IndexFunc_odd : (List (Int × Int)) → Option (Int) := IndexFunc_odd_g LOOPx timer_odd
theorem IndexFunc_odd_ok : FnOK Go.Proofs.Try.prog fn_IndexFunc_odd sg_IndexFunc_odd IndexFunc_odd := fn_of (P := Go.Proofs.Try.prog) (f := fn_IndexFunc_odd) (sg := sg_IndexFunc_odd) (sgs := [(fn_timer_odd, sg_timer_odd)]) (Gd := fun LP gs => IndexFunc_odd_g LP gs.1) (hn := []) (h := [(6, false, ⟨[(0, .vs 0 (.pr (.int .i64) (.int .i64))), (1, .fn 25 [] []), (7, .it .i64), (8, .it .i64)], []⟩)]) (timer_odd, ()) ⟨timer_odd_ok, trivial⟩ (by kernel_rfl) (by kernel_rfl)

/-- slices.ContainsFunc[[]api.Timer,api.Timer] -/
abbrev fn_ContainsFunc_odd : FuncId := 32
def sg_ContainsFunc_odd : Sig := ⟨⟨[(0, .vs 0 (.pr (.int .i64) (.int .i64))), (1, .fn 25 [] [])], []⟩, [⟨[(0, .bo)], []⟩]⟩
def ContainsFunc_odd_g (LP : LPT) (IndexFunc_odd : (List (Int × Int)) → Option (Int)) : (List (Int × Int)) → Option (Bool) := fun x1 =>
  (IndexFunc_odd x1).bind fun x2 => some (decide ((0 : Int) ≤ x2))
def ContainsFunc_odd : (List (Int × Int)) → Option (Bool) := ContainsFunc_odd_g LOOPx IndexFunc_odd
theorem ContainsFunc_odd_ok : FnOK Go.Proofs.Try.prog fn_ContainsFunc_odd sg_ContainsFunc_odd ContainsFunc_odd := fn_of (P := Go.Proofs.Try.prog) (f := fn_ContainsFunc_odd) (sg := sg_ContainsFunc_odd) (sgs := [(fn_IndexFunc_odd, sg_IndexFunc_odd)]) (Gd := fun LP gs => ContainsFunc_odd_g LP gs.1) (hn := []) (h := []) (IndexFunc_odd, ()) ⟨IndexFunc_odd_ok, trivial⟩ (by kernel_rfl) (by kernel_rfl)

/-- timer.Right -/
abbrev fn_timer_Right : FuncId := 16
def sg_timer_Right : Sig := ⟨⟨[(0, .vs 0 (.pr (.int .i64) (.int .i64)))], []⟩, [⟨[(0, .bo)], []⟩]⟩
def timer_Right_g (LP : LPT) (timer_before : ((Int × Int) × Int × Int) → Option (Bool)) (timer_parent : Int → Option (Int)) (timer_place : ((List (Int × Int)) × Int) → Option (Int)) (ContainsFunc_odd : (List (Int × Int)) → Option (Bool)) : (List (Int × Int)) → Option (Bool) := fun x1 =>
  bif !(decide ((12 : Int) < (x1.length : Int))) then 
      ((ContainsFunc_odd x1).bind fun x2 => 
        (bif x2 then some false
        else 
          (LP ((List (Int × Int)) × (List (Int × Int)) × Int × Int) (Bool) (fun (x3, x4, x5, x6) =>
            bif decide (x6 < x5) then 
                (bif decide (0 ≤ x6) && decide (x6 < (x4.length : Int)) then 
                  (bif decide ((0 : Int) < x6) then 
                      ((timer_parent x6).bind fun x7 => 
                        (bif decide (0 ≤ x7) && decide (x7 < (x3.length : Int)) then 
                          ((timer_before (((Ty.at (.pr (.int .i64) (.int .i64)) x4 x6.toNat).1, (Ty.at (.pr (.int .i64) (.int .i64)) x4 x6.toNat).2), (Ty.at (.pr (.int .i64) (.int .i64)) x3 x7.toNat).1, (Ty.at (.pr (.int .i64) (.int .i64)) x3 x7.toNat).2)).bind fun x8 => 
                            (bif !x8 then 
                                ((timer_place (x3, (Ty.at (.pr (.int .i64) (.int .i64)) x4 x6.toNat).2)).bind fun x9 => 
                                  (bif !decide (x9 = x6) then some (.inr false)
                                  else some (.inl (x3, x4, x5, IntKind.i64.wrap (x6 + (1 : Int))))))
                            else some (.inr false)))
                          else none))
                  else 
                    ((timer_place (x3, (Ty.at (.pr (.int .i64) (.int .i64)) x4 x6.toNat).2)).bind fun x10 => 
                      (bif !decide (x10 = x6) then some (.inr false)
                      else some (.inl (x3, x4, x5, IntKind.i64.wrap (x6 + (1 : Int)))))))
                  else none)
            else some (.inr true))
            (x1, x1, (x1.length : Int), 0))))
  else some false
def timer_Right : (List (Int × Int)) → Option (Bool) := timer_Right_g LOOPx timer_before timer_parent timer_place ContainsFunc_odd
theorem timer_Right_ok : FnOK Go.Proofs.Try.prog fn_timer_Right sg_timer_Right timer_Right := fn_of (P := Go.Proofs.Try.prog) (f := fn_timer_Right) (sg := sg_timer_Right) (sgs := [(fn_timer_before, sg_timer_before), (fn_timer_parent, sg_timer_parent), (fn_timer_place, sg_timer_place), (fn_ContainsFunc_odd, sg_ContainsFunc_odd)]) (Gd := fun LP gs => timer_Right_g LP gs.1 gs.2.1 gs.2.2.1 gs.2.2.2.1) (hn := []) (h := [(14, false, ⟨[(0, .vs 0 (.pr (.int .i64) (.int .i64))), (12, .vs 0 (.pr (.int .i64) (.int .i64))), (13, .it .i64), (14, .it .i64)], []⟩)]) (timer_before, timer_parent, timer_place, ContainsFunc_odd, ()) ⟨timer_before_ok, timer_parent_ok, timer_place_ok, ContainsFunc_odd_ok, trivial⟩ (by kernel_rfl) (by kernel_rfl)

/-- slices.Clone[[]api.Timer,api.Timer] -/
abbrev fn_Clone_Timer : FuncId := 27
def sg_Clone_Timer : Sig := sgClone (.pr (.int .i64) (.int .i64))
def Clone_Timer : (List (Int × Int)) → Option (List (Int × Int)) := cloneG (.pr (.int .i64) (.int .i64)) 16
theorem Clone_Timer_ok : FnOK Go.Proofs.Try.prog fn_Clone_Timer sg_Clone_Timer Clone_Timer := clone_ok (.pr (.int .i64) (.int .i64)) 16 (by kernel_rfl) (by kernel_rfl) (by kernel_rfl)

/-- (timer.heap).up -/
abbrev fn_timer_heap_up : FuncId := 28
def sg_timer_heap_up : Sig := ⟨⟨[(0, .gr 0), (1, .it .i64)], [.gs true (.pr (.int .i64) (.int .i64))]⟩, [⟨[], [.gs true (.pr (.int .i64) (.int .i64))]⟩]⟩
def timer_heap_up_g (LP : LPT) (timer_before : ((Int × Int) × Int × Int) → Option (Bool)) (timer_parent : Int → Option (Int)) : (Int × List (Int × Int)) → Option (List (Int × Int)) := fun (x1, x2) =>
  LP (Int × List (Int × Int)) (List (Int × Int)) (fun (x3, x4) =>
    bif decide ((0 : Int) < x3) then 
        (bif decide (0 ≤ x3) && decide (x3 < (x4.length : Int)) then 
          (bif decide (x3.toNat < x4.length) then 
            ((timer_parent x3).bind fun x5 => 
              (bif decide (0 ≤ x5) && decide (x5 < (x4.length : Int)) then 
                (bif decide (x5.toNat < x4.length) then 
                  ((timer_before (((Ty.at (.pr (.int .i64) (.int .i64)) x4 x3.toNat).1, (Ty.at (.pr (.int .i64) (.int .i64)) x4 x3.toNat).2), (Ty.at (.pr (.int .i64) (.int .i64)) x4 x5.toNat).1, (Ty.at (.pr (.int .i64) (.int .i64)) x4 x5.toNat).2)).bind fun x6 => 
                    (bif x6 then 
                        (bif decide (0 ≤ x3) && decide (x3 < (x4.length : Int)) then 
                          (bif decide (x3.toNat < x4.length) then 
                            ((timer_parent x3).bind fun x7 => 
                              ((timer_parent x3).bind fun x8 => 
                                (bif decide (0 ≤ x8) && decide (x8 < (x4.length : Int)) then 
                                  (bif decide (x8.toNat < x4.length) then 
                                    (bif decide (0 ≤ x3) && decide (x3 < (x4.length : Int)) then 
                                      (bif decide (x3.toNat < x4.length) then 
                                        (bif decide (0 ≤ x7) && decide (x7 < ((x4.set x3.toNat ((Ty.at (.pr (.int .i64) (.int .i64)) x4 x8.toNat).1, (Ty.at (.pr (.int .i64) (.int .i64)) x4 x8.toNat).2)).length : Int)) then 
                                          (bif decide (x7.toNat < (x4.set x3.toNat ((Ty.at (.pr (.int .i64) (.int .i64)) x4 x8.toNat).1, (Ty.at (.pr (.int .i64) (.int .i64)) x4 x8.toNat).2)).length) then 
                                            ((timer_parent x3).bind fun x9 => some (.inl (x9, (x4.set x3.toNat ((Ty.at (.pr (.int .i64) (.int .i64)) x4 x8.toNat).1, (Ty.at (.pr (.int .i64) (.int .i64)) x4 x8.toNat).2)).set x7.toNat ((Ty.at (.pr (.int .i64) (.int .i64)) x4 x3.toNat).1, (Ty.at (.pr (.int .i64) (.int .i64)) x4 x3.toNat).2))))
                                            else none)
                                          else none)
                                        else none)
                                      else none)
                                    else none)
                                  else none)))
                            else none)
                          else none)
                    else some (.inr x4)))
                  else none)
                else none))
            else none)
          else none)
    else some (.inr x4))
    (x1, x2)
def timer_heap_up : (Int × List (Int × Int)) → Option (List (Int × Int)) := timer_heap_up_g LOOPx timer_before timer_parent
theorem timer_heap_up_ok : FnOK Go.Proofs.Try.prog fn_timer_heap_up sg_timer_heap_up timer_heap_up := fn_of (P := Go.Proofs.Try.prog) (f := fn_timer_heap_up) (sg := sg_timer_heap_up) (sgs := [(fn_timer_before, sg_timer_before), (fn_timer_parent, sg_timer_parent)]) (Gd := fun LP gs => timer_heap_up_g LP gs.1 gs.2.1) (hn := []) (h := [(1, false, ⟨[(0, .gr 0), (1, .it .i64)], [.gs true (.pr (.int .i64) (.int .i64))]⟩)]) (timer_before, timer_parent, ()) ⟨timer_before_ok, timer_parent_ok, trivial⟩ (by kernel_rfl) (by kernel_rfl)

/-- (timer.heap).down -/
abbrev fn_timer_heap_down : FuncId := 40
def sg_timer_heap_down : Sig := ⟨⟨[(0, .gr 0), (1, .it .i64)], [.gs true (.pr (.int .i64) (.int .i64))]⟩, [⟨[], [.gs true (.pr (.int .i64) (.int .i64))]⟩]⟩
def timer_heap_down_g (LP : LPT) (timer_before : ((Int × Int) × Int × Int) → Option (Bool)) : (Int × List (Int × Int)) → Option (List (Int × Int)) := fun (x1, x2) =>
  LP (Int × List (Int × Int)) (List (Int × Int)) (fun (x3, x4) =>
    Option.bind (α := ((Int × Int) × List (Int × Int)) ⊕ ((Int × List (Int × Int)) ⊕ (List (Int × Int)))) (β := (Int × List (Int × Int)) ⊕ (List (Int × Int))) (LP ((Int × Int × Int) × List (Int × Int)) (((Int × Int) × List (Int × Int)) ⊕ ((Int × List (Int × Int)) ⊕ (List (Int × Int)))) (fun ((x5, x6, x7), x8) =>
        bif decide (x7 ≤ (IntKind.i64.wrap ((IntKind.i64.wrap ((4 : Int) * x5)) + (4 : Int)))) then 
            (bif decide (x7 < (x8.length : Int)) then 
                (bif decide (0 ≤ x7) && decide (x7 < (x8.length : Int)) then 
                  (bif decide (x7.toNat < x8.length) then 
                    (bif decide (0 ≤ x6) && decide (x6 < (x8.length : Int)) then 
                      (bif decide (x6.toNat < x8.length) then 
                        ((timer_before (((Ty.at (.pr (.int .i64) (.int .i64)) x8 x7.toNat).1, (Ty.at (.pr (.int .i64) (.int .i64)) x8 x7.toNat).2), (Ty.at (.pr (.int .i64) (.int .i64)) x8 x6.toNat).1, (Ty.at (.pr (.int .i64) (.int .i64)) x8 x6.toNat).2)).bind fun x9 => 
                          (bif x9 then some (.inl ((x5, x7, IntKind.i64.wrap (x7 + (1 : Int))), x8))
                          else some (.inl ((x5, x6, IntKind.i64.wrap (x7 + (1 : Int))), x8))))
                        else none)
                      else none)
                    else none)
                  else none)
            else some (.inr (.inl ((x5, x6), x8))))
        else some (.inr (.inl ((x5, x6), x8))))
        ((x3, x3, IntKind.i64.wrap ((IntKind.i64.wrap ((4 : Int) * x3)) + (1 : Int))), x4))
      fun z => match z with
      | .inl ((x10, x11), x12) => bif decide (x11 = x10) then some (.inr x12)
        else 
          (bif decide (0 ≤ x11) && decide (x11 < (x12.length : Int)) then 
            (bif decide (x11.toNat < x12.length) then 
              (bif decide (0 ≤ x10) && decide (x10 < (x12.length : Int)) then 
                (bif decide (x10.toNat < x12.length) then 
                  (bif decide (0 ≤ x10) && decide (x10 < (x12.length : Int)) then 
                    (bif decide (x10.toNat < x12.length) then 
                      (bif decide (0 ≤ x11) && decide (x11 < ((x12.set x10.toNat ((Ty.at (.pr (.int .i64) (.int .i64)) x12 x11.toNat).1, (Ty.at (.pr (.int .i64) (.int .i64)) x12 x11.toNat).2)).length : Int)) then 
                        (bif decide (x11.toNat < (x12.set x10.toNat ((Ty.at (.pr (.int .i64) (.int .i64)) x12 x11.toNat).1, (Ty.at (.pr (.int .i64) (.int .i64)) x12 x11.toNat).2)).length) then some (.inl (x11, (x12.set x10.toNat ((Ty.at (.pr (.int .i64) (.int .i64)) x12 x11.toNat).1, (Ty.at (.pr (.int .i64) (.int .i64)) x12 x11.toNat).2)).set x11.toNat ((Ty.at (.pr (.int .i64) (.int .i64)) x12 x10.toNat).1, (Ty.at (.pr (.int .i64) (.int .i64)) x12 x10.toNat).2)))
                          else none)
                        else none)
                      else none)
                    else none)
                  else none)
                else none)
              else none)
            else none)
      | .inr o => some o)
    (x1, x2)
def timer_heap_down : (Int × List (Int × Int)) → Option (List (Int × Int)) := timer_heap_down_g LOOPx timer_before
theorem timer_heap_down_ok : FnOK Go.Proofs.Try.prog fn_timer_heap_down sg_timer_heap_down timer_heap_down := fn_of (P := Go.Proofs.Try.prog) (f := fn_timer_heap_down) (sg := sg_timer_heap_down) (sgs := [(fn_timer_before, sg_timer_before)]) (Gd := fun LP gs => timer_heap_down_g LP gs.1) (hn := []) (h := [(1, false, ⟨[(0, .gr 0), (1, .it .i64)], [.gs true (.pr (.int .i64) (.int .i64))]⟩), (6, true, ⟨[(0, .gr 0), (1, .it .i64), (4, .it .i64)], [.gs true (.pr (.int .i64) (.int .i64))]⟩), (9, false, ⟨[(0, .gr 0), (1, .it .i64), (4, .it .i64), (5, .it .i64)], [.gs true (.pr (.int .i64) (.int .i64))]⟩)]) (timer_before, ()) ⟨timer_before_ok, trivial⟩ (by kernel_rfl) (by kernel_rfl)

/-- timer.Push -/
abbrev fn_timer_Push : FuncId := 9
def sg_timer_Push : Sig := ⟨⟨[(0, .vs 0 (.pr (.int .i64) (.int .i64))), (1, .ag [.it .i64, .it .i64])], []⟩, [⟨[(0, .vs 0 (.pr (.int .i64) (.int .i64))), (1, .it .i64)], []⟩]⟩
def timer_Push_g (LP : LPT) (timer_odd : (Int × Int) → Option (Bool)) (timer_place : ((List (Int × Int)) × Int) → Option (Int)) (timer_Right : (List (Int × Int)) → Option (Bool)) (Clone_Timer : (List (Int × Int)) → Option (List (Int × Int))) (timer_heap_up : (Int × List (Int × Int)) → Option (List (Int × Int))) : ((List (Int × Int)) × Int × Int) → Option ((List (Int × Int)) × Int) := fun (x1, x2, x3) =>
  (timer_odd (x2, x3)).bind fun x4 => 
    (bif !x4 then 
        ((timer_Right x1).bind fun x5 => 
          (bif !x5 then some (x1, 1)
          else 
            ((timer_place (x1, x3)).bind fun x6 => 
              (bif decide ((0 : Int) ≤ x6) then some (x1, 8)
              else 
                (bif decide ((x1.length : Int) = (12 : Int)) then some (x1, 6)
                else 
                  ((Clone_Timer x1).bind fun x7 => 
                    (bif decide ((x7.length + ([(x2, x3)]).length) * 16 ≤ 140737488355328) then 
                      ((timer_heap_up ((x1.length : Int), x7 ++ ([(x2, x3)]))).bind fun x8 => some (x8, 0))
                      else none)))))))
    else some (x1, 1))
def timer_Push : ((List (Int × Int)) × Int × Int) → Option ((List (Int × Int)) × Int) := timer_Push_g LOOPx timer_odd timer_place timer_Right Clone_Timer timer_heap_up
theorem timer_Push_ok : FnOK Go.Proofs.Try.prog fn_timer_Push sg_timer_Push timer_Push := fn_of (P := Go.Proofs.Try.prog) (f := fn_timer_Push) (sg := sg_timer_Push) (sgs := [(fn_timer_odd, sg_timer_odd), (fn_timer_place, sg_timer_place), (fn_timer_Right, sg_timer_Right), (fn_Clone_Timer, sg_Clone_Timer), (fn_timer_heap_up, sg_timer_heap_up)]) (Gd := fun LP gs => timer_Push_g LP gs.1 gs.2.1 gs.2.2.1 gs.2.2.2.1 gs.2.2.2.2.1) (hn := []) (h := []) (timer_odd, timer_place, timer_Right, Clone_Timer, timer_heap_up, ()) ⟨timer_odd_ok, timer_place_ok, timer_Right_ok, Clone_Timer_ok, timer_heap_up_ok, trivial⟩ (by kernel_rfl) (by kernel_rfl)

/-- timer.away -/
abbrev fn_timer_away : FuncId := 30
def sg_timer_away : Sig := ⟨⟨[(0, .vs 0 (.pr (.int .i64) (.int .i64))), (1, .it .i64)], []⟩, [⟨[(0, .gr 0)], [.gs true (.pr (.int .i64) (.int .i64))]⟩]⟩
def timer_away_g (LP : LPT) (Clone_Timer : (List (Int × Int)) → Option (List (Int × Int))) (timer_heap_up : (Int × List (Int × Int)) → Option (List (Int × Int))) (timer_heap_down : (Int × List (Int × Int)) → Option (List (Int × Int))) : ((List (Int × Int)) × Int) → Option (List (Int × Int)) := fun (x1, x2) =>
  (Clone_Timer x1).bind fun x3 => 
    (bif decide (0 ≤ IntKind.i64.wrap ((x3.length : Int) - (1 : Int))) && decide (IntKind.i64.wrap ((x3.length : Int) - (1 : Int)) < (x3.length : Int)) then 
      (bif decide ((IntKind.i64.wrap ((x3.length : Int) - (1 : Int))).toNat < x3.length) then 
        (bif decide (0 ≤ x2) && decide (x2 < (x3.length : Int)) then 
          (bif decide (x2.toNat < x3.length) then 
            (bif decide (0 ≤ IntKind.i64.wrap ((x3.length : Int) - (1 : Int))) && decide (IntKind.i64.wrap ((x3.length : Int) - (1 : Int)) ≤ ((x3.set x2.toNat ((Ty.at (.pr (.int .i64) (.int .i64)) x3 ((IntKind.i64.wrap ((x3.length : Int) - (1 : Int))).toNat)).1, (Ty.at (.pr (.int .i64) (.int .i64)) x3 ((IntKind.i64.wrap ((x3.length : Int) - (1 : Int))).toNat)).2)).length : Int)) then 
              (bif decide (x2 < (IntKind.i64.wrap ((x3.length : Int) - (1 : Int)))) then 
                  ((timer_heap_down (x2, (x3.set x2.toNat ((Ty.at (.pr (.int .i64) (.int .i64)) x3 ((IntKind.i64.wrap ((x3.length : Int) - (1 : Int))).toNat)).1, (Ty.at (.pr (.int .i64) (.int .i64)) x3 ((IntKind.i64.wrap ((x3.length : Int) - (1 : Int))).toNat)).2)).take (IntKind.i64.wrap ((x3.length : Int) - (1 : Int))).toNat)).bind fun x4 => 
                    ((timer_heap_up (x2, x4)).bind fun x5 => some x5))
              else some ((x3.set x2.toNat ((Ty.at (.pr (.int .i64) (.int .i64)) x3 ((IntKind.i64.wrap ((x3.length : Int) - (1 : Int))).toNat)).1, (Ty.at (.pr (.int .i64) (.int .i64)) x3 ((IntKind.i64.wrap ((x3.length : Int) - (1 : Int))).toNat)).2)).take (IntKind.i64.wrap ((x3.length : Int) - (1 : Int))).toNat))
              else none)
            else none)
          else none)
        else none)
      else none)
def timer_away : ((List (Int × Int)) × Int) → Option (List (Int × Int)) := timer_away_g LOOPx Clone_Timer timer_heap_up timer_heap_down
theorem timer_away_ok : FnOK Go.Proofs.Try.prog fn_timer_away sg_timer_away timer_away := fn_of (P := Go.Proofs.Try.prog) (f := fn_timer_away) (sg := sg_timer_away) (sgs := [(fn_Clone_Timer, sg_Clone_Timer), (fn_timer_heap_up, sg_timer_heap_up), (fn_timer_heap_down, sg_timer_heap_down)]) (Gd := fun LP gs => timer_away_g LP gs.1 gs.2.1 gs.2.2.1) (hn := [(21, .pr (.int .i64) (.int .i64))]) (h := []) (Clone_Timer, timer_heap_up, timer_heap_down, ()) ⟨Clone_Timer_ok, timer_heap_up_ok, timer_heap_down_ok, trivial⟩ (by kernel_rfl) (by kernel_rfl)

/-- timer.Pop -/
abbrev fn_timer_Pop : FuncId := 11
def sg_timer_Pop : Sig := ⟨⟨[(0, .vs 0 (.pr (.int .i64) (.int .i64)))], []⟩, [⟨[(0, .vs 0 (.pr (.int .i64) (.int .i64))), (1, .ag [.it .i64, .it .i64]), (2, .it .i64)], []⟩]⟩
def timer_Pop_g (LP : LPT) (timer_Right : (List (Int × Int)) → Option (Bool)) (timer_away : ((List (Int × Int)) × Int) → Option (List (Int × Int))) : (List (Int × Int)) → Option ((List (Int × Int)) × (Int × Int) × Int) := fun x1 =>
  (timer_Right x1).bind fun x2 => 
    (bif !x2 then some (x1, (0, 0), 1)
    else 
      (bif decide ((x1.length : Int) = (0 : Int)) then some (x1, (0, 0), 7)
      else 
        (bif decide (0 ≤ 0) && decide (0 < (x1.length : Int)) then 
          ((timer_away (x1, 0)).bind fun x3 => some (x3, ((Ty.at (.pr (.int .i64) (.int .i64)) x1 ((0 : Int).toNat)).1, (Ty.at (.pr (.int .i64) (.int .i64)) x1 ((0 : Int).toNat)).2), 0))
          else none)))
def timer_Pop : (List (Int × Int)) → Option ((List (Int × Int)) × (Int × Int) × Int) := timer_Pop_g LOOPx timer_Right timer_away
theorem timer_Pop_ok : FnOK Go.Proofs.Try.prog fn_timer_Pop sg_timer_Pop timer_Pop := fn_of (P := Go.Proofs.Try.prog) (f := fn_timer_Pop) (sg := sg_timer_Pop) (sgs := [(fn_timer_Right, sg_timer_Right), (fn_timer_away, sg_timer_away)]) (Gd := fun LP gs => timer_Pop_g LP gs.1 gs.2.1) (hn := []) (h := []) (timer_Right, timer_away, ()) ⟨timer_Right_ok, timer_away_ok, trivial⟩ (by kernel_rfl) (by kernel_rfl)

/-- timer.Drop -/
abbrev fn_timer_Drop : FuncId := 13
def sg_timer_Drop : Sig := ⟨⟨[(0, .vs 0 (.pr (.int .i64) (.int .i64))), (1, .it .i64)], []⟩, [⟨[(0, .vs 0 (.pr (.int .i64) (.int .i64))), (1, .it .i64)], []⟩]⟩
def timer_Drop_g (LP : LPT) (timer_place : ((List (Int × Int)) × Int) → Option (Int)) (timer_Right : (List (Int × Int)) → Option (Bool)) (timer_away : ((List (Int × Int)) × Int) → Option (List (Int × Int))) : ((List (Int × Int)) × Int) → Option ((List (Int × Int)) × Int) := fun (x1, x2) =>
  (timer_Right x1).bind fun x3 => 
    (bif !x3 then some (x1, 1)
    else 
      ((timer_place (x1, x2)).bind fun x4 => 
        (bif decide (x4 < (0 : Int)) then some (x1, 7)
        else 
          ((timer_away (x1, x4)).bind fun x5 => some (x5, 0)))))
def timer_Drop : ((List (Int × Int)) × Int) → Option ((List (Int × Int)) × Int) := timer_Drop_g LOOPx timer_place timer_Right timer_away
theorem timer_Drop_ok : FnOK Go.Proofs.Try.prog fn_timer_Drop sg_timer_Drop timer_Drop := fn_of (P := Go.Proofs.Try.prog) (f := fn_timer_Drop) (sg := sg_timer_Drop) (sgs := [(fn_timer_place, sg_timer_place), (fn_timer_Right, sg_timer_Right), (fn_timer_away, sg_timer_away)]) (Gd := fun LP gs => timer_Drop_g LP gs.1 gs.2.1 gs.2.2.1) (hn := []) (h := []) (timer_place, timer_Right, timer_away, ()) ⟨timer_place_ok, timer_Right_ok, timer_away_ok, trivial⟩ (by kernel_rfl) (by kernel_rfl)

/-- timer.Due -/
abbrev fn_timer_Due : FuncId := 18
def sg_timer_Due : Sig := ⟨⟨[(0, .vs 0 (.pr (.int .i64) (.int .i64))), (1, .it .i64)], []⟩, [⟨[(0, .vs 0 (.pr (.int .i64) (.int .i64))), (1, .gr 0), (2, .it .i64)], [.gs true (.int .i64)]⟩]⟩
def timer_Due_g (LP : LPT) (timer_Right : (List (Int × Int)) → Option (Bool)) (timer_away : ((List (Int × Int)) × Int) → Option (List (Int × Int))) : ((List (Int × Int)) × Int) → Option (((List (Int × Int)) × Int) × List Int) := fun (x1, x2) =>
  (timer_Right x1).bind fun x3 => 
    (bif !x3 then some ((x1, 1), [])
    else 
      (LP (((List (Int × Int)) × Int) × List Int) (((List (Int × Int)) × Int) × List Int) (fun ((x4, x5), x6) =>
        bif decide ((0 : Int) < (x4.length : Int)) then 
            (bif decide (0 ≤ 0) && decide (0 < (x4.length : Int)) then 
              (bif decide (((Ty.at (.pr (.int .i64) (.int .i64)) x4 ((0 : Int).toNat)).1) ≤ x5) then 
                  (bif decide (0 ≤ 0) && decide (0 < (x4.length : Int)) then 
                    (bif decide ((x6.length + ([(Ty.at (.pr (.int .i64) (.int .i64)) x4 ((0 : Int).toNat)).2]).length) * 8 ≤ 140737488355328) then 
                      ((timer_away (x4, 0)).bind fun x7 => some (.inl ((x7, x5), x6 ++ ([(Ty.at (.pr (.int .i64) (.int .i64)) x4 ((0 : Int).toNat)).2]))))
                      else none)
                    else none)
              else some (.inr ((x4, 0), x6)))
              else none)
        else some (.inr ((x4, 0), x6)))
        ((x1, x2), [])))
def timer_Due : ((List (Int × Int)) × Int) → Option (((List (Int × Int)) × Int) × List Int) := timer_Due_g LOOPx timer_Right timer_away
theorem timer_Due_ok : FnOK Go.Proofs.Try.prog fn_timer_Due sg_timer_Due timer_Due := fn_of (P := Go.Proofs.Try.prog) (f := fn_timer_Due) (sg := sg_timer_Due) (sgs := [(fn_timer_Right, sg_timer_Right), (fn_timer_away, sg_timer_away)]) (Gd := fun LP gs => timer_Due_g LP gs.1 gs.2.1) (hn := []) (h := [(14, false, ⟨[(0, .vs 0 (.pr (.int .i64) (.int .i64))), (1, .it .i64), (7, .gr 0)], [.gs true (.int .i64)]⟩)]) (timer_Right, timer_away, ()) ⟨timer_Right_ok, timer_away_ok, trivial⟩ (by kernel_rfl) (by kernel_rfl)

/-- slices.AppendSeq behind slices.Values -/
abbrev fn_AppendSeq_Timer : FuncId := 48
abbrev sg_AppendSeq_Timer : Sig := sgAppendSeq 44
def AppendSeq_Timer : (List (Int × Int)) → Option (List (Int × Int)) := appendSeqG
theorem AppendSeq_Timer_ok : FnOK Go.Proofs.Try.prog fn_AppendSeq_Timer sg_AppendSeq_Timer AppendSeq_Timer :=
  appendSeq_ok (tE := 24) (by kernel_rfl) fun w Bs sv len f h1 h2 h3 h4 => Go.callsIn_wide.1 (Go.Proofs.appendSeq_in Go.Fence.wide 3 trivial trivial rfl (Nat.le_refl _) Bs sv len f h1 w h2 h3 h4)

/-- slices.Values[[]api.Timer,api.Timer] -/
abbrev fn_Values_Timer : FuncId := 36
def sg_Values_Timer : Sig := ⟨⟨[(0, .vs 0 (.pr (.int .i64) (.int .i64)))], []⟩, [⟨[(0, .fn 44 [] [.pt 0 0])], [.va [.vs 0 (.pr (.int .i64) (.int .i64))]]⟩]⟩
def Values_Timer_g (LP : LPT) : (List (Int × Int)) → Option (List (Int × Int)) := fun x1 =>
  some x1
def Values_Timer : (List (Int × Int)) → Option (List (Int × Int)) := Values_Timer_g LOOPx
theorem Values_Timer_ok : FnOK Go.Proofs.Try.prog fn_Values_Timer sg_Values_Timer Values_Timer := fn_of (P := Go.Proofs.Try.prog) (f := fn_Values_Timer) (sg := sg_Values_Timer) (sgs := []) (Gd := fun LP gs => Values_Timer_g LP) (hn := []) (h := []) (()) trivial (by kernel_rfl) (by kernel_rfl)

/-- slices.Collect[api.Timer] -/
abbrev fn_Collect_Timer : FuncId := 42
def sg_Collect_Timer : Sig := ⟨⟨[(0, .fn 44 [] [.pe [.vs 0 (.pr (.int .i64) (.int .i64))] 0])], []⟩, [⟨[(0, .gr 0)], [.gs true (.pr (.int .i64) (.int .i64))]⟩]⟩
def Collect_Timer_g (LP : LPT) (AppendSeq_Timer : (List (Int × Int)) → Option (List (Int × Int))) : (List (Int × Int)) → Option (List (Int × Int)) := fun x1 =>
  (AppendSeq_Timer x1).bind fun x2 => some x2
def Collect_Timer : (List (Int × Int)) → Option (List (Int × Int)) := Collect_Timer_g LOOPx AppendSeq_Timer
theorem Collect_Timer_ok : FnOK Go.Proofs.Try.prog fn_Collect_Timer sg_Collect_Timer Collect_Timer := fn_of (P := Go.Proofs.Try.prog) (f := fn_Collect_Timer) (sg := sg_Collect_Timer) (sgs := [(fn_AppendSeq_Timer, sg_AppendSeq_Timer)]) (Gd := fun LP gs => Collect_Timer_g LP gs.1) (hn := []) (h := []) (AppendSeq_Timer, ()) ⟨AppendSeq_Timer_ok, trivial⟩ (by kernel_rfl) (by kernel_rfl)

/-- math/bits.Len64 -/
abbrev fn_math_bits_Len64 : FuncId := 62
def sg_math_bits_Len64 : Sig := ⟨⟨[(0, .it .u64)], []⟩, [⟨[(0, .it .i64)], []⟩]⟩
def math_bits_Len64_g (LP : LPT) : Int → Option (Int) := fun x1 =>
  Option.bind (α := (Int × Int) ⊕ Int) (β := Int) (bif decide ((4294967296 : Int) ≤ x1) then 
        (bif decide (0 ≤ (32 : Int)) then some (.inl (x1.fdiv (2 ^ (min (32 : Int).toNat IntKind.u64.bits)), 32))
          else none)
    else some (.inl (x1, 0)))
    fun z => match z with
    | .inl (x2, x3) => Option.bind (α := (Int × Int) ⊕ Int) (β := Int) (bif decide ((65536 : Int) ≤ x2) then 
            (bif decide (0 ≤ (16 : Int)) then some (.inl (x2.fdiv (2 ^ (min (16 : Int).toNat IntKind.u64.bits)), IntKind.i64.wrap (x3 + (16 : Int))))
              else none)
        else some (.inl (x2, x3)))
        fun z => match z with
        | .inl (x4, x5) => bif decide ((256 : Int) ≤ x4) then 
              (bif decide (0 ≤ (8 : Int)) then 
                (bif decide (0 ≤ IntKind.u8.wrap (x4.fdiv (2 ^ (min (8 : Int).toNat IntKind.u64.bits)))) && decide (IntKind.u8.wrap (x4.fdiv (2 ^ (min (8 : Int).toNat IntKind.u64.bits))) < ((⟨#[0, 1, 2, 2, 3, 3, 3, 3, 4, 4, 4, 4, 4, 4, 4, 4, 5, 5, 5, 5, 5, 5, 5, 5, 5, 5, 5, 5, 5, 5, 5, 5, 6, 6, 6, 6, 6, 6, 6, 6, 6, 6, 6, 6, 6, 6, 6, 6, 6, 6, 6, 6, 6, 6, 6, 6, 6, 6, 6, 6, 6, 6, 6, 6, 7, 7, 7, 7, 7, 7, 7, 7, 7, 7, 7, 7, 7, 7, 7, 7, 7, 7, 7, 7, 7, 7, 7, 7, 7, 7, 7, 7, 7, 7, 7, 7, 7, 7, 7, 7, 7, 7, 7, 7, 7, 7, 7, 7, 7, 7, 7, 7, 7, 7, 7, 7, 7, 7, 7, 7, 7, 7, 7, 7, 7, 7, 7, 7, 8, 8, 8, 8, 8, 8, 8, 8, 8, 8, 8, 8, 8, 8, 8, 8, 8, 8, 8, 8, 8, 8, 8, 8, 8, 8, 8, 8, 8, 8, 8, 8, 8, 8, 8, 8, 8, 8, 8, 8, 8, 8, 8, 8, 8, 8, 8, 8, 8, 8, 8, 8, 8, 8, 8, 8, 8, 8, 8, 8, 8, 8, 8, 8, 8, 8, 8, 8, 8, 8, 8, 8, 8, 8, 8, 8, 8, 8, 8, 8, 8, 8, 8, 8, 8, 8, 8, 8, 8, 8, 8, 8, 8, 8, 8, 8, 8, 8, 8, 8, 8, 8, 8, 8, 8, 8, 8, 8, 8, 8, 8, 8, 8, 8, 8, 8, 8, 8, 8, 8, 8, 8, 8, 8, 8, 8, 8, 8]⟩ : ByteArray).size : Int)) then some (IntKind.i64.wrap ((IntKind.i64.wrap (x5 + (8 : Int))) + (IntKind.i64.wrap (bat (⟨#[0, 1, 2, 2, 3, 3, 3, 3, 4, 4, 4, 4, 4, 4, 4, 4, 5, 5, 5, 5, 5, 5, 5, 5, 5, 5, 5, 5, 5, 5, 5, 5, 6, 6, 6, 6, 6, 6, 6, 6, 6, 6, 6, 6, 6, 6, 6, 6, 6, 6, 6, 6, 6, 6, 6, 6, 6, 6, 6, 6, 6, 6, 6, 6, 7, 7, 7, 7, 7, 7, 7, 7, 7, 7, 7, 7, 7, 7, 7, 7, 7, 7, 7, 7, 7, 7, 7, 7, 7, 7, 7, 7, 7, 7, 7, 7, 7, 7, 7, 7, 7, 7, 7, 7, 7, 7, 7, 7, 7, 7, 7, 7, 7, 7, 7, 7, 7, 7, 7, 7, 7, 7, 7, 7, 7, 7, 7, 7, 8, 8, 8, 8, 8, 8, 8, 8, 8, 8, 8, 8, 8, 8, 8, 8, 8, 8, 8, 8, 8, 8, 8, 8, 8, 8, 8, 8, 8, 8, 8, 8, 8, 8, 8, 8, 8, 8, 8, 8, 8, 8, 8, 8, 8, 8, 8, 8, 8, 8, 8, 8, 8, 8, 8, 8, 8, 8, 8, 8, 8, 8, 8, 8, 8, 8, 8, 8, 8, 8, 8, 8, 8, 8, 8, 8, 8, 8, 8, 8, 8, 8, 8, 8, 8, 8, 8, 8, 8, 8, 8, 8, 8, 8, 8, 8, 8, 8, 8, 8, 8, 8, 8, 8, 8, 8, 8, 8, 8, 8, 8, 8, 8, 8, 8, 8, 8, 8, 8, 8, 8, 8, 8, 8, 8, 8, 8, 8]⟩ : ByteArray) (IntKind.u8.wrap (x4.fdiv (2 ^ (min (8 : Int).toNat IntKind.u64.bits)))).toNat))))
                  else none)
                else none)
          else 
            (bif decide (0 ≤ IntKind.u8.wrap x4) && decide (IntKind.u8.wrap x4 < ((⟨#[0, 1, 2, 2, 3, 3, 3, 3, 4, 4, 4, 4, 4, 4, 4, 4, 5, 5, 5, 5, 5, 5, 5, 5, 5, 5, 5, 5, 5, 5, 5, 5, 6, 6, 6, 6, 6, 6, 6, 6, 6, 6, 6, 6, 6, 6, 6, 6, 6, 6, 6, 6, 6, 6, 6, 6, 6, 6, 6, 6, 6, 6, 6, 6, 7, 7, 7, 7, 7, 7, 7, 7, 7, 7, 7, 7, 7, 7, 7, 7, 7, 7, 7, 7, 7, 7, 7, 7, 7, 7, 7, 7, 7, 7, 7, 7, 7, 7, 7, 7, 7, 7, 7, 7, 7, 7, 7, 7, 7, 7, 7, 7, 7, 7, 7, 7, 7, 7, 7, 7, 7, 7, 7, 7, 7, 7, 7, 7, 8, 8, 8, 8, 8, 8, 8, 8, 8, 8, 8, 8, 8, 8, 8, 8, 8, 8, 8, 8, 8, 8, 8, 8, 8, 8, 8, 8, 8, 8, 8, 8, 8, 8, 8, 8, 8, 8, 8, 8, 8, 8, 8, 8, 8, 8, 8, 8, 8, 8, 8, 8, 8, 8, 8, 8, 8, 8, 8, 8, 8, 8, 8, 8, 8, 8, 8, 8, 8, 8, 8, 8, 8, 8, 8, 8, 8, 8, 8, 8, 8, 8, 8, 8, 8, 8, 8, 8, 8, 8, 8, 8, 8, 8, 8, 8, 8, 8, 8, 8, 8, 8, 8, 8, 8, 8, 8, 8, 8, 8, 8, 8, 8, 8, 8, 8, 8, 8, 8, 8, 8, 8, 8, 8, 8, 8, 8, 8]⟩ : ByteArray).size : Int)) then some (IntKind.i64.wrap (x5 + (IntKind.i64.wrap (bat (⟨#[0, 1, 2, 2, 3, 3, 3, 3, 4, 4, 4, 4, 4, 4, 4, 4, 5, 5, 5, 5, 5, 5, 5, 5, 5, 5, 5, 5, 5, 5, 5, 5, 6, 6, 6, 6, 6, 6, 6, 6, 6, 6, 6, 6, 6, 6, 6, 6, 6, 6, 6, 6, 6, 6, 6, 6, 6, 6, 6, 6, 6, 6, 6, 6, 7, 7, 7, 7, 7, 7, 7, 7, 7, 7, 7, 7, 7, 7, 7, 7, 7, 7, 7, 7, 7, 7, 7, 7, 7, 7, 7, 7, 7, 7, 7, 7, 7, 7, 7, 7, 7, 7, 7, 7, 7, 7, 7, 7, 7, 7, 7, 7, 7, 7, 7, 7, 7, 7, 7, 7, 7, 7, 7, 7, 7, 7, 7, 7, 8, 8, 8, 8, 8, 8, 8, 8, 8, 8, 8, 8, 8, 8, 8, 8, 8, 8, 8, 8, 8, 8, 8, 8, 8, 8, 8, 8, 8, 8, 8, 8, 8, 8, 8, 8, 8, 8, 8, 8, 8, 8, 8, 8, 8, 8, 8, 8, 8, 8, 8, 8, 8, 8, 8, 8, 8, 8, 8, 8, 8, 8, 8, 8, 8, 8, 8, 8, 8, 8, 8, 8, 8, 8, 8, 8, 8, 8, 8, 8, 8, 8, 8, 8, 8, 8, 8, 8, 8, 8, 8, 8, 8, 8, 8, 8, 8, 8, 8, 8, 8, 8, 8, 8, 8, 8, 8, 8, 8, 8, 8, 8, 8, 8, 8, 8, 8, 8, 8, 8, 8, 8, 8, 8, 8, 8, 8, 8]⟩ : ByteArray) (IntKind.u8.wrap x4).toNat))))
              else none)
        | .inr o => some o
    | .inr o => some o
def math_bits_Len64 : Int → Option (Int) := math_bits_Len64_g LOOPx
theorem math_bits_Len64_ok : FnOK Go.Proofs.Try.prog fn_math_bits_Len64 sg_math_bits_Len64 math_bits_Len64 := fn_of (P := Go.Proofs.Try.prog) (f := fn_math_bits_Len64) (sg := sg_math_bits_Len64) (sgs := []) (Gd := fun LP gs => math_bits_Len64_g LP) (hn := []) (h := [(3, true, ⟨[(0, .it .u64), (2, .it .i64)], []⟩), (11, true, ⟨[(0, .it .u64), (2, .it .i64)], []⟩)]) (()) trivial (by kernel_rfl) (by kernel_rfl)

/-- math/bits.Len -/
abbrev fn_math_bits_Len : FuncId := 50
def sg_math_bits_Len : Sig := ⟨⟨[(0, .it .u64)], []⟩, [⟨[(0, .it .i64)], []⟩]⟩
def math_bits_Len_g (LP : LPT) (math_bits_Len64 : Int → Option (Int)) : Int → Option (Int) := fun x1 =>
  (math_bits_Len64 x1).bind fun x2 => some x2
def math_bits_Len : Int → Option (Int) := math_bits_Len_g LOOPx math_bits_Len64
theorem math_bits_Len_ok : FnOK Go.Proofs.Try.prog fn_math_bits_Len sg_math_bits_Len math_bits_Len := fn_of (P := Go.Proofs.Try.prog) (f := fn_math_bits_Len) (sg := sg_math_bits_Len) (sgs := [(fn_math_bits_Len64, sg_math_bits_Len64)]) (Gd := fun LP gs => math_bits_Len_g LP gs.1) (hn := []) (h := []) (math_bits_Len64, ()) ⟨math_bits_Len64_ok, trivial⟩ (by kernel_rfl) (by kernel_rfl)

/-- slices.insertionSortCmpFunc[api.Timer] -/
abbrev fn_insertionSort_Timer : FuncId := 53
def sg_insertionSort_Timer : Sig := ⟨⟨[(0, .gr 0), (1, .it .i64), (2, .it .i64), (3, .fn 37 [] [])], [.gs true (.pr (.int .i64) (.int .i64))]⟩, [⟨[], [.gs true (.pr (.int .i64) (.int .i64))]⟩]⟩
def insertionSort_Timer_g (LP : LPT) (timer_compare : ((Int × Int) × Int × Int) → Option (Int)) : ((Int × Int) × List (Int × Int)) → Option (List (Int × Int)) := fun ((x1, x2), x3) =>
  LP ((Int × Int × Int) × List (Int × Int)) (List (Int × Int)) (fun ((x4, x5, x6), x7) =>
    bif decide (x6 < x5) then 
        (LP ((Int × Int × Int × Int) × List (Int × Int)) (((Int × Int × Int) × List (Int × Int)) ⊕ (List (Int × Int))) (fun ((x8, x9, x10, x11), x12) =>
          bif decide (x8 < x11) then 
              (bif decide (0 ≤ x11) && decide (x11 < (x12.length : Int)) then 
                (bif decide (x11.toNat < x12.length) then 
                  (bif decide (0 ≤ IntKind.i64.wrap (x11 - (1 : Int))) && decide (IntKind.i64.wrap (x11 - (1 : Int)) < (x12.length : Int)) then 
                    (bif decide ((IntKind.i64.wrap (x11 - (1 : Int))).toNat < x12.length) then 
                      ((timer_compare (((Ty.at (.pr (.int .i64) (.int .i64)) x12 x11.toNat).1, (Ty.at (.pr (.int .i64) (.int .i64)) x12 x11.toNat).2), (Ty.at (.pr (.int .i64) (.int .i64)) x12 ((IntKind.i64.wrap (x11 - (1 : Int))).toNat)).1, (Ty.at (.pr (.int .i64) (.int .i64)) x12 ((IntKind.i64.wrap (x11 - (1 : Int))).toNat)).2)).bind fun x13 => 
                        (bif decide (x13 < (0 : Int)) then 
                            (bif decide (0 ≤ IntKind.i64.wrap (x11 - (1 : Int))) && decide (IntKind.i64.wrap (x11 - (1 : Int)) < (x12.length : Int)) then 
                              (bif decide ((IntKind.i64.wrap (x11 - (1 : Int))).toNat < x12.length) then 
                                (bif decide (0 ≤ x11) && decide (x11 < (x12.length : Int)) then 
                                  (bif decide (x11.toNat < x12.length) then 
                                    (bif decide (0 ≤ x11) && decide (x11 < (x12.length : Int)) then 
                                      (bif decide (x11.toNat < x12.length) then 
                                        (bif decide (0 ≤ IntKind.i64.wrap (x11 - (1 : Int))) && decide (IntKind.i64.wrap (x11 - (1 : Int)) < ((x12.set x11.toNat ((Ty.at (.pr (.int .i64) (.int .i64)) x12 ((IntKind.i64.wrap (x11 - (1 : Int))).toNat)).1, (Ty.at (.pr (.int .i64) (.int .i64)) x12 ((IntKind.i64.wrap (x11 - (1 : Int))).toNat)).2)).length : Int)) then 
                                          (bif decide ((IntKind.i64.wrap (x11 - (1 : Int))).toNat < (x12.set x11.toNat ((Ty.at (.pr (.int .i64) (.int .i64)) x12 ((IntKind.i64.wrap (x11 - (1 : Int))).toNat)).1, (Ty.at (.pr (.int .i64) (.int .i64)) x12 ((IntKind.i64.wrap (x11 - (1 : Int))).toNat)).2)).length) then some (.inl ((x8, x9, x10, IntKind.i64.wrap (x11 - (1 : Int))), (x12.set x11.toNat ((Ty.at (.pr (.int .i64) (.int .i64)) x12 ((IntKind.i64.wrap (x11 - (1 : Int))).toNat)).1, (Ty.at (.pr (.int .i64) (.int .i64)) x12 ((IntKind.i64.wrap (x11 - (1 : Int))).toNat)).2)).set ((IntKind.i64.wrap (x11 - (1 : Int))).toNat) ((Ty.at (.pr (.int .i64) (.int .i64)) x12 x11.toNat).1, (Ty.at (.pr (.int .i64) (.int .i64)) x12 x11.toNat).2)))
                                            else none)
                                          else none)
                                        else none)
                                      else none)
                                    else none)
                                  else none)
                                else none)
                              else none)
                        else some (.inr (.inl ((x8, x9, IntKind.i64.wrap (x10 + (1 : Int))), x12)))))
                      else none)
                    else none)
                  else none)
                else none)
          else some (.inr (.inl ((x8, x9, IntKind.i64.wrap (x10 + (1 : Int))), x12))))
          ((x4, x5, x6, x6), x7))
    else some (.inr x7))
    ((x1, x2, IntKind.i64.wrap (x1 + (1 : Int))), x3)
def insertionSort_Timer : ((Int × Int) × List (Int × Int)) → Option (List (Int × Int)) := insertionSort_Timer_g LOOPx timer_compare
theorem insertionSort_Timer_ok : FnOK Go.Proofs.Try.prog fn_insertionSort_Timer sg_insertionSort_Timer insertionSort_Timer := fn_of (P := Go.Proofs.Try.prog) (f := fn_insertionSort_Timer) (sg := sg_insertionSort_Timer) (sgs := [(fn_timer_compare, sg_timer_compare)]) (Gd := fun LP gs => insertionSort_Timer_g LP gs.1) (hn := []) (h := [(3, false, ⟨[(0, .gr 0), (1, .it .i64), (2, .it .i64), (3, .fn 37 [] []), (8, .it .i64)], [.gs true (.pr (.int .i64) (.int .i64))]⟩), (15, false, ⟨[(0, .gr 0), (1, .it .i64), (2, .it .i64), (3, .fn 37 [] []), (8, .it .i64), (9, .it .i64)], [.gs true (.pr (.int .i64) (.int .i64))]⟩)]) (timer_compare, ()) ⟨timer_compare_ok, trivial⟩ (by kernel_rfl) (by kernel_rfl)

/-- slices.pdqsortCmpFunc[api.Timer] -/
abbrev fn_pdqsort_Timer : FuncId := 49
def sg_pdqsort_Timer : Sig := ⟨⟨[(0, .gr 0), (1, .it .i64), (2, .it .i64), (3, .it .i64), (4, .fn 37 [] [])], [.gs true (.pr (.int .i64) (.int .i64))]⟩, [⟨[], [.gs true (.pr (.int .i64) (.int .i64))]⟩]⟩
def pdqsort_Timer_g (LP : LPT) (insertionSort_Timer : ((Int × Int) × List (Int × Int)) → Option (List (Int × Int))) : ((Int × Int × Int) × List (Int × Int)) → Option (List (Int × Int)) := fun ((x1, x2, x3), x4) =>
  LP ((Int × Int × Int × Bool × Bool) × List (Int × Int)) (List (Int × Int)) (fun ((x5, x6, x7, x8, x9), x10) =>
    bif decide ((IntKind.i64.wrap (x6 - x5)) ≤ (12 : Int)) then 
        ((insertionSort_Timer ((x5, x6), x10)).bind fun x11 => some (.inr x11))
    else 
      (bif decide (x7 = (0 : Int)) then none
      else 
        (bif !x8 then none
          else none)))
    ((x1, x2, x3, true, true), x4)
def pdqsort_Timer : ((Int × Int × Int) × List (Int × Int)) → Option (List (Int × Int)) := pdqsort_Timer_g LOOPx insertionSort_Timer
theorem pdqsort_Timer_ok : FnOK Go.Proofs.Try.prog fn_pdqsort_Timer sg_pdqsort_Timer pdqsort_Timer := fn_of (P := Go.Proofs.Try.prog) (f := fn_pdqsort_Timer) (sg := sg_pdqsort_Timer) (sgs := [(fn_insertionSort_Timer, sg_insertionSort_Timer)]) (Gd := fun LP gs => pdqsort_Timer_g LP gs.1) (hn := []) (h := [(5, false, ⟨[(0, .gr 0), (1, .it .i64), (2, .it .i64), (3, .it .i64), (4, .fn 37 [] []), (10, .bo), (11, .bo)], [.gs true (.pr (.int .i64) (.int .i64))]⟩)]) (insertionSort_Timer, ()) ⟨insertionSort_Timer_ok, trivial⟩ (by kernel_rfl) (by kernel_rfl)

/-- slices.SortFunc[[]api.Timer,api.Timer] -/
abbrev fn_SortFunc_Timer : FuncId := 43
def sg_SortFunc_Timer : Sig := ⟨⟨[(0, .gr 0), (1, .fn 37 [] [])], [.gs true (.pr (.int .i64) (.int .i64))]⟩, [⟨[], [.gs true (.pr (.int .i64) (.int .i64))]⟩]⟩
def SortFunc_Timer_g (LP : LPT) (math_bits_Len : Int → Option (Int)) (pdqsort_Timer : ((Int × Int × Int) × List (Int × Int)) → Option (List (Int × Int))) : (List (Int × Int)) → Option (List (Int × Int)) := fun x1 =>
  (math_bits_Len (IntKind.u64.wrap (x1.length : Int))).bind fun x2 => 
    ((pdqsort_Timer ((0, (x1.length : Int), x2), x1)).bind fun x3 => some x3)
def SortFunc_Timer : (List (Int × Int)) → Option (List (Int × Int)) := SortFunc_Timer_g LOOPx math_bits_Len pdqsort_Timer
theorem SortFunc_Timer_ok : FnOK Go.Proofs.Try.prog fn_SortFunc_Timer sg_SortFunc_Timer SortFunc_Timer := fn_of (P := Go.Proofs.Try.prog) (f := fn_SortFunc_Timer) (sg := sg_SortFunc_Timer) (sgs := [(fn_math_bits_Len, sg_math_bits_Len), (fn_pdqsort_Timer, sg_pdqsort_Timer)]) (Gd := fun LP gs => SortFunc_Timer_g LP gs.1 gs.2.1) (hn := []) (h := []) (math_bits_Len, pdqsort_Timer, ()) ⟨math_bits_Len_ok, pdqsort_Timer_ok, trivial⟩ (by kernel_rfl) (by kernel_rfl)

/-- slices.SortedFunc[api.Timer] -/
abbrev fn_SortedFunc_Timer : FuncId := 35
def sg_SortedFunc_Timer : Sig := ⟨⟨[(0, .fn 44 [] [.pe [.vs 0 (.pr (.int .i64) (.int .i64))] 0]), (1, .fn 37 [] [])], []⟩, [⟨[(0, .gr 0)], [.gs true (.pr (.int .i64) (.int .i64))]⟩]⟩
def SortedFunc_Timer_g (LP : LPT) (Collect_Timer : (List (Int × Int)) → Option (List (Int × Int))) (SortFunc_Timer : (List (Int × Int)) → Option (List (Int × Int))) : (List (Int × Int)) → Option (List (Int × Int)) := fun x1 =>
  (Collect_Timer x1).bind fun x2 => 
    ((SortFunc_Timer x2).bind fun x3 => some x3)
def SortedFunc_Timer : (List (Int × Int)) → Option (List (Int × Int)) := SortedFunc_Timer_g LOOPx Collect_Timer SortFunc_Timer
theorem SortedFunc_Timer_ok : FnOK Go.Proofs.Try.prog fn_SortedFunc_Timer sg_SortedFunc_Timer SortedFunc_Timer := fn_of (P := Go.Proofs.Try.prog) (f := fn_SortedFunc_Timer) (sg := sg_SortedFunc_Timer) (sgs := [(fn_Collect_Timer, sg_Collect_Timer), (fn_SortFunc_Timer, sg_SortFunc_Timer)]) (Gd := fun LP gs => SortedFunc_Timer_g LP gs.1 gs.2.1) (hn := []) (h := []) (Collect_Timer, SortFunc_Timer, ()) ⟨Collect_Timer_ok, SortFunc_Timer_ok, trivial⟩ (by kernel_rfl) (by kernel_rfl)

/-- timer.Sorted -/
abbrev fn_timer_Sorted : FuncId := 21
def sg_timer_Sorted : Sig := ⟨⟨[(0, .vs 0 (.pr (.int .i64) (.int .i64)))], []⟩, [⟨[(0, .gr 0)], [.gs true (.pr (.int .i64) (.int .i64))]⟩]⟩
def timer_Sorted_g (LP : LPT) (timer_Right : (List (Int × Int)) → Option (Bool)) (Values_Timer : (List (Int × Int)) → Option (List (Int × Int))) (SortedFunc_Timer : (List (Int × Int)) → Option (List (Int × Int))) : (List (Int × Int)) → Option (List (Int × Int)) := fun x1 =>
  (timer_Right x1).bind fun x2 => 
    (bif !x2 then some ([])
    else 
      ((Values_Timer x1).bind fun x3 => 
        ((SortedFunc_Timer x3).bind fun x4 => some x4)))
def timer_Sorted : (List (Int × Int)) → Option (List (Int × Int)) := timer_Sorted_g LOOPx timer_Right Values_Timer SortedFunc_Timer
theorem timer_Sorted_ok : FnOK Go.Proofs.Try.prog fn_timer_Sorted sg_timer_Sorted timer_Sorted := fn_of (P := Go.Proofs.Try.prog) (f := fn_timer_Sorted) (sg := sg_timer_Sorted) (sgs := [(fn_timer_Right, sg_timer_Right), (fn_Values_Timer, sg_Values_Timer), (fn_SortedFunc_Timer, sg_SortedFunc_Timer)]) (Gd := fun LP gs => timer_Sorted_g LP gs.1 gs.2.1 gs.2.2.1) (hn := []) (h := []) (timer_Right, Values_Timer, SortedFunc_Timer, ()) ⟨timer_Right_ok, Values_Timer_ok, SortedFunc_Timer_ok, trivial⟩ (by kernel_rfl) (by kernel_rfl)

/-- torporlaw12.alive -/
abbrev fn_torporlaw12_alive : FuncId := 7
def sg_torporlaw12_alive : Sig := ⟨⟨[], []⟩, [⟨[(0, .bo)], []⟩]⟩
def torporlaw12_alive_g (LP : LPT) (torporref01_Ints : ((List Int) × List Int) → Option (Bool)) (torporref12_Same : ((List (Int × Int)) × List (Int × Int)) → Option (Bool)) (timer_Right : (List (Int × Int)) → Option (Bool)) (timer_Push : ((List (Int × Int)) × Int × Int) → Option ((List (Int × Int)) × Int)) (timer_Pop : (List (Int × Int)) → Option ((List (Int × Int)) × (Int × Int) × Int)) (timer_Drop : ((List (Int × Int)) × Int) → Option ((List (Int × Int)) × Int)) (timer_Due : ((List (Int × Int)) × Int) → Option (((List (Int × Int)) × Int) × List Int)) (timer_Sorted : (List (Int × Int)) → Option (List (Int × Int))) : Unit → Option (Bool) := fun _ =>
  (timer_Push ([], 5, 1)).bind fun (x1, x2) => 
    ((timer_Push (x1, 3, 2)).bind fun (x3, x4) => 
      ((timer_Push (x3, 5, 0)).bind fun (x5, x6) => 
        ((timer_Push (x5, 1, 2)).bind fun (x7, x8) => 
          ((timer_Pop x5).bind fun (x9, (x10, x11), x12) => 
            ((timer_Drop (x5, 1)).bind fun (x13, x14) => 
              ((timer_Due (x5, 5)).bind fun ((x15, x16), x17) => 
                ((timer_Pop ([])).bind fun (x18, (x19, x20), x21) => 
                  (bif decide (x2 = (0 : Int)) then 
                      (bif decide (x4 = (0 : Int)) then 
                          (bif decide (x6 = (0 : Int)) then 
                              (bif decide (x8 = (8 : Int)) then 
                                  (bif decide (x12 = (0 : Int)) then 
                                      (bif decide (x14 = (0 : Int)) then 
                                          (bif decide (x16 = (0 : Int)) then 
                                              (bif decide (x21 = (7 : Int)) then 
                                                  (bif ((x10 == (3 : Int)) && ((x11 == (2 : Int)) && true)) then 
                                                      ((torporref12_Same (x9, [(5, 0), (5, 1)])).bind fun x22 => 
                                                        (bif x22 then 
                                                            ((torporref12_Same (x13, [(3, 2), (5, 0)])).bind fun x23 => 
                                                              (bif x23 then 
                                                                  (bif decide ((x15.length : Int) = (0 : Int)) then 
                                                                      ((torporref01_Ints (x17, [2, 0, 1])).bind fun x24 => 
                                                                        (bif x24 then 
                                                                            ((timer_Right x5).bind fun x25 => 
                                                                              (bif x25 then 
                                                                                  ((timer_Sorted x5).bind fun x26 => 
                                                                                    ((torporref12_Same (x26, [(3, 2), (5, 0), (5, 1)])).bind fun x27 => some x27))
                                                                              else some false))
                                                                        else some false))
                                                                  else some false)
                                                              else some false))
                                                        else some false))
                                                  else some false)
                                              else some false)
                                          else some false)
                                      else some false)
                                  else some false)
                              else some false)
                          else some false)
                      else some false)
                  else some false))))))))
def torporlaw12_alive : Unit → Option (Bool) := torporlaw12_alive_g LOOPx torporref01_Ints torporref12_Same timer_Right timer_Push timer_Pop timer_Drop timer_Due timer_Sorted
theorem torporlaw12_alive_ok : FnOK Go.Proofs.Try.prog fn_torporlaw12_alive sg_torporlaw12_alive torporlaw12_alive := fn_of (P := Go.Proofs.Try.prog) (f := fn_torporlaw12_alive) (sg := sg_torporlaw12_alive) (sgs := [(fn_torporref01_Ints, sg_torporref01_Ints), (fn_torporref12_Same, sg_torporref12_Same), (fn_timer_Right, sg_timer_Right), (fn_timer_Push, sg_timer_Push), (fn_timer_Pop, sg_timer_Pop), (fn_timer_Drop, sg_timer_Drop), (fn_timer_Due, sg_timer_Due), (fn_timer_Sorted, sg_timer_Sorted)]) (Gd := fun LP gs => torporlaw12_alive_g LP gs.1 gs.2.1 gs.2.2.1 gs.2.2.2.1 gs.2.2.2.2.1 gs.2.2.2.2.2.1 gs.2.2.2.2.2.2.1 gs.2.2.2.2.2.2.2.1) (hn := []) (h := []) (torporref01_Ints, torporref12_Same, timer_Right, timer_Push, timer_Pop, timer_Drop, timer_Due, timer_Sorted, ()) ⟨torporref01_Ints_ok, torporref12_Same_ok, timer_Right_ok, timer_Push_ok, timer_Pop_ok, timer_Drop_ok, timer_Due_ok, timer_Sorted_ok, trivial⟩ (by kernel_rfl) (by kernel_rfl)

/-- torporlaw12.TimerAnswers -/
abbrev fn_torporlaw12_TimerAnswers : FuncId := 3
def sg_torporlaw12_TimerAnswers : Sig := ⟨⟨[(0, .vs 0 (.pr (.int .i64) (.int .i64))), (1, .ag [.it .i64, .it .i64]), (2, .it .i64)], []⟩, [⟨[(0, .bo)], []⟩]⟩
def torporlaw12_TimerAnswers_g (LP : LPT) (torporref12_Right : (List (Int × Int)) → Option (Bool)) (torporref12_Copy : (List (Int × Int)) → Option (List (Int × Int))) (torporref12_Same : ((List (Int × Int)) × List (Int × Int)) → Option (Bool)) (torporref12_Push : ((List (Int × Int)) × Int × Int) → Option ((List (Int × Int)) × Int)) (torporref12_Pop : (List (Int × Int)) → Option ((List (Int × Int)) × (Int × Int) × Int)) (torporref12_Drop : ((List (Int × Int)) × Int) → Option ((List (Int × Int)) × Int)) (timer_Right : (List (Int × Int)) → Option (Bool)) (timer_Push : ((List (Int × Int)) × Int × Int) → Option ((List (Int × Int)) × Int)) (timer_Pop : (List (Int × Int)) → Option ((List (Int × Int)) × (Int × Int) × Int)) (timer_Drop : ((List (Int × Int)) × Int) → Option ((List (Int × Int)) × Int)) (torporlaw12_alive : Unit → Option (Bool)) : ((List (Int × Int)) × (Int × Int) × Int) → Option (Bool) := fun (x1, (x2, x3), x4) =>
  (torporlaw12_alive ()).bind fun x5 => 
    (bif !x5 then some false
    else 
      (bif decide ((30 : Int) < (x1.length : Int)) then some true
      else 
        ((torporref12_Copy x1).bind fun x6 => 
          ((timer_Push (x6, x2, x3)).bind fun (x7, x8) => 
            ((torporref12_Push (x1, x2, x3)).bind fun (x9, x10) => 
              ((timer_Pop x6).bind fun (x11, (x12, x13), x14) => 
                ((torporref12_Pop x1).bind fun (x15, (x16, x17), x18) => 
                  ((timer_Drop (x6, x4)).bind fun (x19, x20) => 
                    ((torporref12_Drop (x1, x4)).bind fun (x21, x22) => 
                      ((torporref12_Same (x7, x9)).bind fun x23 => 
                        (bif x23 then 
                            (bif decide (x8 = x10) then 
                                ((torporref12_Same (x11, x15)).bind fun x24 => 
                                  (bif x24 then 
                                      (bif ((x12 == x16) && ((x13 == x17) && true)) then 
                                          (bif decide (x14 = x18) then 
                                              ((torporref12_Same (x19, x21)).bind fun x25 => 
                                                (bif x25 then 
                                                    (bif decide (x20 = x22) then 
                                                        ((timer_Right x1).bind fun x26 => 
                                                          ((torporref12_Right x1).bind fun x27 => 
                                                            (bif x26 == x27 then 
                                                                ((torporref12_Same (x6, x1)).bind fun x28 => some x28)
                                                            else some false)))
                                                    else some false)
                                                else some false))
                                          else some false)
                                      else some false)
                                  else some false))
                            else some false)
                        else some false)))))))))))
def torporlaw12_TimerAnswers : ((List (Int × Int)) × (Int × Int) × Int) → Option (Bool) := torporlaw12_TimerAnswers_g LOOPx torporref12_Right torporref12_Copy torporref12_Same torporref12_Push torporref12_Pop torporref12_Drop timer_Right timer_Push timer_Pop timer_Drop torporlaw12_alive
theorem torporlaw12_TimerAnswers_ok : FnOK Go.Proofs.Try.prog fn_torporlaw12_TimerAnswers sg_torporlaw12_TimerAnswers torporlaw12_TimerAnswers := fn_of (P := Go.Proofs.Try.prog) (f := fn_torporlaw12_TimerAnswers) (sg := sg_torporlaw12_TimerAnswers) (sgs := [(fn_torporref12_Right, sg_torporref12_Right), (fn_torporref12_Copy, sg_torporref12_Copy), (fn_torporref12_Same, sg_torporref12_Same), (fn_torporref12_Push, sg_torporref12_Push), (fn_torporref12_Pop, sg_torporref12_Pop), (fn_torporref12_Drop, sg_torporref12_Drop), (fn_timer_Right, sg_timer_Right), (fn_timer_Push, sg_timer_Push), (fn_timer_Pop, sg_timer_Pop), (fn_timer_Drop, sg_timer_Drop), (fn_torporlaw12_alive, sg_torporlaw12_alive)]) (Gd := fun LP gs => torporlaw12_TimerAnswers_g LP gs.1 gs.2.1 gs.2.2.1 gs.2.2.2.1 gs.2.2.2.2.1 gs.2.2.2.2.2.1 gs.2.2.2.2.2.2.1 gs.2.2.2.2.2.2.2.1 gs.2.2.2.2.2.2.2.2.1 gs.2.2.2.2.2.2.2.2.2.1 gs.2.2.2.2.2.2.2.2.2.2.1) (hn := []) (h := []) (torporref12_Right, torporref12_Copy, torporref12_Same, torporref12_Push, torporref12_Pop, torporref12_Drop, timer_Right, timer_Push, timer_Pop, timer_Drop, torporlaw12_alive, ()) ⟨torporref12_Right_ok, torporref12_Copy_ok, torporref12_Same_ok, torporref12_Push_ok, torporref12_Pop_ok, torporref12_Drop_ok, timer_Right_ok, timer_Push_ok, timer_Pop_ok, timer_Drop_ok, torporlaw12_alive_ok, trivial⟩ (by kernel_rfl) (by kernel_rfl)

/-- torporlaw12.TimerDues -/
abbrev fn_torporlaw12_TimerDues : FuncId := 4
def sg_torporlaw12_TimerDues : Sig := ⟨⟨[(0, .vs 0 (.pr (.int .i64) (.int .i64))), (1, .it .i64)], []⟩, [⟨[(0, .bo)], []⟩]⟩
def torporlaw12_TimerDues_g (LP : LPT) (torporref01_Ints : ((List Int) × List Int) → Option (Bool)) (torporref12_Copy : (List (Int × Int)) → Option (List (Int × Int))) (torporref12_Same : ((List (Int × Int)) × List (Int × Int)) → Option (Bool)) (torporref12_Due : ((List (Int × Int)) × Int) → Option (((List (Int × Int)) × Int) × List Int)) (torporref12_Sorted : (List (Int × Int)) → Option (List (Int × Int))) (timer_Due : ((List (Int × Int)) × Int) → Option (((List (Int × Int)) × Int) × List Int)) (timer_Sorted : (List (Int × Int)) → Option (List (Int × Int))) (torporlaw12_alive : Unit → Option (Bool)) : ((List (Int × Int)) × Int) → Option (Bool) := fun (x1, x2) =>
  (torporlaw12_alive ()).bind fun x3 => 
    (bif !x3 then some false
    else 
      (bif decide ((30 : Int) < (x1.length : Int)) then some true
      else 
        ((torporref12_Copy x1).bind fun x4 => 
          ((timer_Due (x4, x2)).bind fun ((x5, x6), x7) => 
            ((torporref12_Due (x1, x2)).bind fun ((x8, x9), x10) => 
              ((torporref12_Same (x5, x8)).bind fun x11 => 
                (bif !(!x11) then 
                    ((torporref01_Ints (x7, x10)).bind fun x12 => 
                      (bif !(!x12) then 
                          (bif !(!decide (x6 = x9)) then 
                              ((timer_Sorted x1).bind fun x13 => 
                                ((torporref12_Sorted x1).bind fun x14 => 
                                  ((torporref12_Same (x13, x14)).bind fun x15 => 
                                    (bif !(!x15) then 
                                        ((torporref12_Same (x4, x1)).bind fun x16 => 
                                          (bif !x16 then some false
                                          else 
                                            ((timer_Sorted x1).bind fun x17 => 
                                              (Option.bind (α := ((List (Int × Int)) × (List Int) × List (Int × Int)) ⊕ Bool) (β := Bool) (LP ((Int × (List (Int × Int)) × Int) × (List Int) × List (Int × Int)) (((List (Int × Int)) × (List Int) × List (Int × Int)) ⊕ Bool) (fun ((x18, x19, x20), x21, x22) =>
                                                  bif decide (x20 < (x22.length : Int)) then 
                                                      (bif decide (0 ≤ x20) && decide (x20 < (x22.length : Int)) then 
                                                        (bif decide (x20.toNat < x22.length) then 
                                                          (bif !(!((decide (x20 < (x21.length : Int))) == (decide (((Ty.at (.pr (.int .i64) (.int .i64)) x22 x20.toNat).1) ≤ x18)))) then 
                                                              (bif decide (x20 < (x21.length : Int)) then 
                                                                  (bif decide (0 ≤ x20) && decide (x20 < (x21.length : Int)) then 
                                                                    (bif decide (x20.toNat < x21.length) then 
                                                                      (bif decide (0 ≤ x20) && decide (x20 < (x22.length : Int)) then 
                                                                        (bif decide (x20.toNat < x22.length) then 
                                                                          (bif !decide ((Ty.at (.int .i64) x21 x20.toNat) = ((Ty.at (.pr (.int .i64) (.int .i64)) x22 x20.toNat).2)) then some (.inr (.inr false))
                                                                          else some (.inl ((x18, x19, IntKind.i64.wrap (x20 + (1 : Int))), x21, x22)))
                                                                          else none)
                                                                        else none)
                                                                      else none)
                                                                    else none)
                                                              else some (.inl ((x18, x19, IntKind.i64.wrap (x20 + (1 : Int))), x21, x22)))
                                                          else some (.inr (.inr false)))
                                                          else none)
                                                        else none)
                                                  else some (.inr (.inl (x19, x21, x22))))
                                                  ((x2, x5, 0), x7, x17))
                                                fun z => match z with
                                                | .inl (x23, x24, x25) => bif decide (0 ≤ (x24.length : Int)) && decide ((x24.length : Int) ≤ (x25.length : Int)) then 
                                                    ((timer_Sorted x23).bind fun x26 => 
                                                      (bif (decide (((x24.length : Int).toNat) + (x25.length - ((x24.length : Int).toNat)) ≤ x25.length) && true) && true then 
                                                        ((torporref12_Same (x26, (x25.drop ((x24.length : Int).toNat)).take (x25.length - ((x24.length : Int).toNat)))).bind fun x27 => some x27)
                                                        else none))
                                                    else none
                                                | .inr o => some o))))
                                    else some false))))
                          else some false)
                      else some false))
                else some false)))))))
def torporlaw12_TimerDues : ((List (Int × Int)) × Int) → Option (Bool) := torporlaw12_TimerDues_g LOOPx torporref01_Ints torporref12_Copy torporref12_Same torporref12_Due torporref12_Sorted timer_Due timer_Sorted torporlaw12_alive
theorem torporlaw12_TimerDues_ok : FnOK Go.Proofs.Try.prog fn_torporlaw12_TimerDues sg_torporlaw12_TimerDues torporlaw12_TimerDues := fn_of (P := Go.Proofs.Try.prog) (f := fn_torporlaw12_TimerDues) (sg := sg_torporlaw12_TimerDues) (sgs := [(fn_torporref01_Ints, sg_torporref01_Ints), (fn_torporref12_Copy, sg_torporref12_Copy), (fn_torporref12_Same, sg_torporref12_Same), (fn_torporref12_Due, sg_torporref12_Due), (fn_torporref12_Sorted, sg_torporref12_Sorted), (fn_timer_Due, sg_timer_Due), (fn_timer_Sorted, sg_timer_Sorted), (fn_torporlaw12_alive, sg_torporlaw12_alive)]) (Gd := fun LP gs => torporlaw12_TimerDues_g LP gs.1 gs.2.1 gs.2.2.1 gs.2.2.2.1 gs.2.2.2.2.1 gs.2.2.2.2.2.1 gs.2.2.2.2.2.2.1 gs.2.2.2.2.2.2.2.1) (hn := []) (h := [(35, true, ⟨[(6, .vs 0 (.pr (.int .i64) (.int .i64))), (7, .gr 0), (12, .gr 1)], [.gs true (.int .i64), .gs true (.pr (.int .i64) (.int .i64))]⟩), (38, false, ⟨[(1, .it .i64), (6, .vs 0 (.pr (.int .i64) (.int .i64))), (7, .gr 0), (12, .gr 1), (13, .it .i64)], [.gs true (.int .i64), .gs true (.pr (.int .i64) (.int .i64))]⟩)]) (torporref01_Ints, torporref12_Copy, torporref12_Same, torporref12_Due, torporref12_Sorted, timer_Due, timer_Sorted, torporlaw12_alive, ()) ⟨torporref01_Ints_ok, torporref12_Copy_ok, torporref12_Same_ok, torporref12_Due_ok, torporref12_Sorted_ok, timer_Due_ok, timer_Sorted_ok, torporlaw12_alive_ok, trivial⟩ (by kernel_rfl) (by kernel_rfl)

/-- torporlaw12.TimerLeast -/
abbrev fn_torporlaw12_TimerLeast : FuncId := 5
def sg_torporlaw12_TimerLeast : Sig := ⟨⟨[(0, .vs 0 (.pr (.int .i64) (.int .i64)))], []⟩, [⟨[(0, .bo)], []⟩]⟩
def torporlaw12_TimerLeast_g (LP : LPT) (torporref12_Before : ((Int × Int) × Int × Int) → Option (Bool)) (torporref12_Right : (List (Int × Int)) → Option (Bool)) (torporref12_Same : ((List (Int × Int)) × List (Int × Int)) → Option (Bool)) (timer_Right : (List (Int × Int)) → Option (Bool)) (timer_Pop : (List (Int × Int)) → Option ((List (Int × Int)) × (Int × Int) × Int)) (timer_Sorted : (List (Int × Int)) → Option (List (Int × Int))) (torporlaw12_alive : Unit → Option (Bool)) : (List (Int × Int)) → Option (Bool) := fun x1 =>
  (torporlaw12_alive ()).bind fun x2 => 
    (bif !x2 then some false
    else 
      (bif decide ((30 : Int) < (x1.length : Int)) then some true
      else 
        ((timer_Pop x1).bind fun (x3, (x4, x5), x6) => 
          (bif !decide (x6 = (0 : Int)) then 
              ((torporref12_Same (x3, x1)).bind fun x7 => 
                (bif x7 then 
                    (bif !(decide ((x1.length : Int) = (0 : Int))) then 
                        ((torporref12_Right x1).bind fun x8 => some (!x8))
                    else some true)
                else some false))
          else 
            (Option.bind (α := (((List (Int × Int)) × List (Int × Int)) × Int × Int) ⊕ Bool) (β := Bool) (LP (((List (Int × Int)) × (List (Int × Int)) × Int) × Int × Int) ((((List (Int × Int)) × List (Int × Int)) × Int × Int) ⊕ Bool) (fun ((x9, x10, x11), x12, x13) =>
                bif decide (x11 < (x10.length : Int)) then 
                    (bif decide (0 ≤ x11) && decide (x11 < (x10.length : Int)) then 
                      ((torporref12_Before ((x12, x13), (Ty.at (.pr (.int .i64) (.int .i64)) x10 x11.toNat).1, (Ty.at (.pr (.int .i64) (.int .i64)) x10 x11.toNat).2)).bind fun x14 => 
                        (bif !x14 then some (.inr (.inr false))
                        else some (.inl ((x9, x10, IntKind.i64.wrap (x11 + (1 : Int))), x12, x13))))
                      else none)
                else some (.inr (.inl ((x9, x10), x12, x13))))
                ((x1, x3, 0), x4, x5))
              fun z => match z with
              | .inl ((x15, x16), x17, x18) => (timer_Sorted x15).bind fun x19 => 
                  ((timer_Right x16).bind fun x20 => 
                    (bif x20 then 
                        (bif decide ((x16.length : Int) = (IntKind.i64.wrap ((x15.length : Int) - (1 : Int)))) then 
                            (bif decide ((x19.length : Int) = (x15.length : Int)) then 
                                (bif decide (0 ≤ 0) && decide (0 < (x19.length : Int)) then 
                                  (bif decide ((0 : Int).toNat < x19.length) then 
                                    (bif ((((Ty.at (.pr (.int .i64) (.int .i64)) x19 ((0 : Int).toNat)).1) == x17) && ((((Ty.at (.pr (.int .i64) (.int .i64)) x19 ((0 : Int).toNat)).2) == x18) && true)) then 
                                        (bif decide (0 ≤ 1) && decide (1 ≤ (x19.length : Int)) then 
                                          ((timer_Sorted x16).bind fun x21 => 
                                            (bif (decide (((1 : Int).toNat) + (x19.length - ((1 : Int).toNat)) ≤ x19.length) && true) && true then 
                                              ((torporref12_Same (x21, (x19.drop ((1 : Int).toNat)).take (x19.length - ((1 : Int).toNat)))).bind fun x22 => some x22)
                                              else none))
                                          else none)
                                    else some false)
                                    else none)
                                  else none)
                            else some false)
                        else some false)
                    else some false))
              | .inr o => some o)))))
def torporlaw12_TimerLeast : (List (Int × Int)) → Option (Bool) := torporlaw12_TimerLeast_g LOOPx torporref12_Before torporref12_Right torporref12_Same timer_Right timer_Pop timer_Sorted torporlaw12_alive
theorem torporlaw12_TimerLeast_ok : FnOK Go.Proofs.Try.prog fn_torporlaw12_TimerLeast sg_torporlaw12_TimerLeast torporlaw12_TimerLeast := fn_of (P := Go.Proofs.Try.prog) (f := fn_torporlaw12_TimerLeast) (sg := sg_torporlaw12_TimerLeast) (sgs := [(fn_torporref12_Before, sg_torporref12_Before), (fn_torporref12_Right, sg_torporref12_Right), (fn_torporref12_Same, sg_torporref12_Same), (fn_timer_Right, sg_timer_Right), (fn_timer_Pop, sg_timer_Pop), (fn_timer_Sorted, sg_timer_Sorted), (fn_torporlaw12_alive, sg_torporlaw12_alive)]) (Gd := fun LP gs => torporlaw12_TimerLeast_g LP gs.1 gs.2.1 gs.2.2.1 gs.2.2.2.1 gs.2.2.2.2.1 gs.2.2.2.2.2.1 gs.2.2.2.2.2.2.1) (hn := []) (h := [(29, true, ⟨[(0, .vs 0 (.pr (.int .i64) (.int .i64))), (3, .vs 0 (.pr (.int .i64) (.int .i64))), (4, .pt 0 0)], [.va [.it .i64, .it .i64]]⟩), (32, false, ⟨[(0, .vs 0 (.pr (.int .i64) (.int .i64))), (3, .vs 0 (.pr (.int .i64) (.int .i64))), (4, .pt 0 0), (6, .it .i64)], [.va [.it .i64, .it .i64]]⟩)]) (torporref12_Before, torporref12_Right, torporref12_Same, timer_Right, timer_Pop, timer_Sorted, torporlaw12_alive, ()) ⟨torporref12_Before_ok, torporref12_Right_ok, torporref12_Same_ok, timer_Right_ok, timer_Pop_ok, timer_Sorted_ok, torporlaw12_alive_ok, trivial⟩ (by kernel_rfl) (by kernel_rfl)

/-- torporlaw12.TimerBack -/
abbrev fn_torporlaw12_TimerBack : FuncId := 6
def sg_torporlaw12_TimerBack : Sig := ⟨⟨[(0, .vs 0 (.pr (.int .i64) (.int .i64))), (1, .ag [.it .i64, .it .i64])], []⟩, [⟨[(0, .bo)], []⟩]⟩
def torporlaw12_TimerBack_g (LP : LPT) (torporref12_Place : ((List (Int × Int)) × Int) → Option (Int)) (torporref12_Same : ((List (Int × Int)) × List (Int × Int)) → Option (Bool)) (timer_Right : (List (Int × Int)) → Option (Bool)) (timer_Push : ((List (Int × Int)) × Int × Int) → Option ((List (Int × Int)) × Int)) (timer_Drop : ((List (Int × Int)) × Int) → Option ((List (Int × Int)) × Int)) (timer_Sorted : (List (Int × Int)) → Option (List (Int × Int))) (torporlaw12_alive : Unit → Option (Bool)) : ((List (Int × Int)) × Int × Int) → Option (Bool) := fun (x1, x2, x3) =>
  (torporlaw12_alive ()).bind fun x4 => 
    (bif !x4 then some false
    else 
      (bif decide ((30 : Int) < (x1.length : Int)) then some true
      else 
        ((timer_Push (x1, x2, x3)).bind fun (x5, x6) => 
          (bif !decide (x6 = (0 : Int)) then 
              ((torporref12_Same (x5, x1)).bind fun x7 => some x7)
          else 
            ((timer_Drop (x5, x3)).bind fun (x8, x9) => 
              (bif !(!decide (x9 = (0 : Int))) then 
                  ((timer_Right x5).bind fun x10 => 
                    (bif !(!x10) then 
                        ((timer_Right x8).bind fun x11 => 
                          (bif !x11 then some false
                          else 
                            ((timer_Sorted x8).bind fun x12 => 
                              ((timer_Sorted x1).bind fun x13 => 
                                ((torporref12_Same (x12, x13)).bind fun x14 => 
                                  (bif x14 then 
                                      (bif decide ((x5.length : Int) = (IntKind.i64.wrap ((x1.length : Int) + (1 : Int)))) then 
                                          ((timer_Sorted x5).bind fun x15 => 
                                            ((torporref12_Place (x15, x3)).bind fun x16 => some (decide ((0 : Int) ≤ x16))))
                                      else some false)
                                  else some false))))))
                    else some false))
              else some false))))))
def torporlaw12_TimerBack : ((List (Int × Int)) × Int × Int) → Option (Bool) := torporlaw12_TimerBack_g LOOPx torporref12_Place torporref12_Same timer_Right timer_Push timer_Drop timer_Sorted torporlaw12_alive
theorem torporlaw12_TimerBack_ok : FnOK Go.Proofs.Try.prog fn_torporlaw12_TimerBack sg_torporlaw12_TimerBack torporlaw12_TimerBack := fn_of (P := Go.Proofs.Try.prog) (f := fn_torporlaw12_TimerBack) (sg := sg_torporlaw12_TimerBack) (sgs := [(fn_torporref12_Place, sg_torporref12_Place), (fn_torporref12_Same, sg_torporref12_Same), (fn_timer_Right, sg_timer_Right), (fn_timer_Push, sg_timer_Push), (fn_timer_Drop, sg_timer_Drop), (fn_timer_Sorted, sg_timer_Sorted), (fn_torporlaw12_alive, sg_torporlaw12_alive)]) (Gd := fun LP gs => torporlaw12_TimerBack_g LP gs.1 gs.2.1 gs.2.2.1 gs.2.2.2.1 gs.2.2.2.2.1 gs.2.2.2.2.2.1 gs.2.2.2.2.2.2.1) (hn := []) (h := []) (torporref12_Place, torporref12_Same, timer_Right, timer_Push, timer_Drop, timer_Sorted, torporlaw12_alive, ()) ⟨torporref12_Place_ok, torporref12_Same_ok, timer_Right_ok, timer_Push_ok, timer_Drop_ok, timer_Sorted_ok, torporlaw12_alive_ok, trivial⟩ (by kernel_rfl) (by kernel_rfl)

end Go.AX
end
