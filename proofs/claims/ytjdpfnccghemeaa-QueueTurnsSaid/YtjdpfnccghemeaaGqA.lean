/- Parts: QfA. -/
import Derived.Test.YtjdpfnccghemeaaGeB
import Derived.Test.YtjdpfnccghemeaaProg
import Derived.KernelRfl

section
/- Functions of this seat, as typed functions of Lean, written by a program; each with its proof. -/
set_option linter.unusedVariables false
set_option maxRecDepth 100000
namespace Go.AX
open Go

/-- torporref07.Has -/
abbrev fn_torporref07_Has : FuncId := 24
def sg_torporref07_Has : Sig := ⟨⟨[(0, .vs 0 (.int .i64)), (1, .it .i64)], []⟩, [⟨[(0, .bo)], []⟩]⟩
def torporref07_Has_g (LP : LPT) : ((List Int) × Int) → Option (Bool) := fun (x1, x2) =>
  LP ((List Int) × Int × Int) (Bool) (fun (x3, x4, x5) =>
    bif decide (x5 < (x3.length : Int)) then 
        (bif decide (0 ≤ x5) && decide (x5 < (x3.length : Int)) then 
          (bif decide ((Ty.at (.int .i64) x3 x5.toNat) = x4) then some (.inr true)
          else some (.inl (x3, x4, IntKind.i64.wrap (x5 + (1 : Int)))))
          else none)
    else some (.inr false))
    (x1, x2, 0)
def torporref07_Has : ((List Int) × Int) → Option (Bool) := torporref07_Has_g LOOPx
theorem torporref07_Has_ok : FnOK Go.Proofs.Try.prog fn_torporref07_Has sg_torporref07_Has torporref07_Has := fn_of (P := Go.Proofs.Try.prog) (f := fn_torporref07_Has) (sg := sg_torporref07_Has) (sgs := []) (Gd := fun LP gs => torporref07_Has_g LP) (hn := []) (h := [(6, false, ⟨[(0, .vs 0 (.int .i64)), (1, .it .i64), (5, .it .i64)], []⟩)]) (()) trivial (by kernel_rfl) (by kernel_rfl)

/-- torporref01.Ints -/
abbrev fn_torporref01_Ints : FuncId := 16
def sg_torporref01_Ints : Sig := ⟨⟨[(0, .vs 0 (.int .i64)), (1, .vs 0 (.int .i64))], []⟩, [⟨[(0, .bo)], []⟩]⟩
def torporref01_Ints_g (LP : LPT) : ((List Int) × List Int) → Option (Bool) := fun (x1, x2) =>
  bif !decide ((x1.length : Int) = (x2.length : Int)) then some false
  else 
    (LP ((List Int) × (List Int) × Int) (Bool) (fun (x3, x4, x5) =>
      bif decide (x5 < (x3.length : Int)) then 
          (bif decide (0 ≤ x5) && decide (x5 < (x3.length : Int)) then 
            (bif decide (0 ≤ x5) && decide (x5 < (x4.length : Int)) then 
              (bif !decide ((Ty.at (.int .i64) x3 x5.toNat) = (Ty.at (.int .i64) x4 x5.toNat)) then some (.inr false)
              else some (.inl (x3, x4, IntKind.i64.wrap (x5 + (1 : Int)))))
              else none)
            else none)
      else some (.inr true))
      (x1, x2, 0))
def torporref01_Ints : ((List Int) × List Int) → Option (Bool) := torporref01_Ints_g LOOPx
theorem torporref01_Ints_ok : FnOK Go.Proofs.Try.prog fn_torporref01_Ints sg_torporref01_Ints torporref01_Ints := fn_of (P := Go.Proofs.Try.prog) (f := fn_torporref01_Ints) (sg := sg_torporref01_Ints) (sgs := []) (Gd := fun LP gs => torporref01_Ints_g LP) (hn := []) (h := [(14, false, ⟨[(0, .vs 0 (.int .i64)), (1, .vs 0 (.int .i64)), (5, .it .i64)], []⟩)]) (()) trivial (by kernel_rfl) (by kernel_rfl)

/-- arena.empty -/
abbrev fn_arena_empty : FuncId := 45
def sg_arena_empty : Sig := ⟨⟨[(0, .ag [.it .i64, .it .i64, .it .i64])], []⟩, [⟨[(0, .bo)], []⟩]⟩
def arena_empty_g (LP : LPT) : (Int × Int × Int) → Option (Bool) := fun (x1, x2, x3) =>
  bif decide (x1 = (-1)) then some (decide (x2 = (-1)))
  else some false
def arena_empty : (Int × Int × Int) → Option (Bool) := arena_empty_g LOOPx
theorem arena_empty_ok : FnOK Go.Proofs.Try.prog fn_arena_empty sg_arena_empty arena_empty := fn_of (P := Go.Proofs.Try.prog) (f := fn_arena_empty) (sg := sg_arena_empty) (sgs := []) (Gd := fun LP gs => arena_empty_g LP) (hn := []) (h := []) (()) trivial (by kernel_rfl) (by kernel_rfl)

/-- arena.taken -/
abbrev fn_arena_taken : FuncId := 46
def sg_arena_taken : Sig := ⟨⟨[(0, .ag [.vs 0 (.pr (.int .i64) (.pr (.int .i64) (.int .i64))), .it .i64]), (1, .it .i64)], []⟩, [⟨[(0, .bo)], []⟩]⟩
def arena_taken_g (LP : LPT) (arena_empty : (Int × Int × Int) → Option (Bool)) : (((List (Int × Int × Int)) × Int) × Int) → Option (Bool) := fun ((x1, x2), x3) =>
  bif decide ((0 : Int) ≤ x3) then 
      (bif decide (x3 < (x1.length : Int)) then 
          (bif decide (0 ≤ x3) && decide (x3 < (x1.length : Int)) then 
            ((arena_empty ((Ty.at (.pr (.int .i64) (.pr (.int .i64) (.int .i64))) x1 x3.toNat).1, ((Ty.at (.pr (.int .i64) (.pr (.int .i64) (.int .i64))) x1 x3.toNat).2).1, ((Ty.at (.pr (.int .i64) (.pr (.int .i64) (.int .i64))) x1 x3.toNat).2).2)).bind fun x4 => some (!x4))
            else none)
      else some false)
  else some false
def arena_taken : (((List (Int × Int × Int)) × Int) × Int) → Option (Bool) := arena_taken_g LOOPx arena_empty
theorem arena_taken_ok : FnOK Go.Proofs.Try.prog fn_arena_taken sg_arena_taken arena_taken := fn_of (P := Go.Proofs.Try.prog) (f := fn_arena_taken) (sg := sg_arena_taken) (sgs := [(fn_arena_empty, sg_arena_empty)]) (Gd := fun LP gs => arena_taken_g LP gs.1) (hn := []) (h := []) (arena_empty, ()) ⟨arena_empty_ok, trivial⟩ (by kernel_rfl) (by kernel_rfl)

/-- arena.marks -/
abbrev fn_arena_marks : FuncId := 41
def sg_arena_marks : Sig := ⟨⟨[(0, .it .i64), (1, .vs 0 (.int .i64))], []⟩, [⟨[(0, .gr 0)], [.gs true (.boo)]⟩]⟩
def arena_marks_g (LP : LPT) : (Int × List Int) → Option (List Bool) := fun (x1, x2) =>
  bif decide (0 ≤ x1) && (decide (x1 ≤ x1) && (decide (x1 ≤ 9223372036854775807) && decide ((1 : Int) * x1 ≤ 140737488355328))) then 
    (LP (((List Int) × Int × Int) × List Bool) (List Bool) (fun ((x3, x4, x5), x6) =>
      bif decide (x5 < x4) then 
          (bif decide (0 ≤ x5) && decide (x5 < (x3.length : Int)) then 
            (bif decide (0 ≤ Ty.at (.int .i64) x3 x5.toNat) && decide (Ty.at (.int .i64) x3 x5.toNat < (x6.length : Int)) then 
              (bif decide ((Ty.at (.int .i64) x3 x5.toNat).toNat < x6.length) then some (.inl ((x3, x4, IntKind.i64.wrap (x5 + (1 : Int))), x6.set ((Ty.at (.int .i64) x3 x5.toNat).toNat) true))
                else none)
              else none)
            else none)
      else some (.inr x6))
      ((x2, (x2.length : Int), 0), List.replicate x1.toNat false))
    else none
def arena_marks : (Int × List Int) → Option (List Bool) := arena_marks_g LOOPx
theorem arena_marks_ok : FnOK Go.Proofs.Try.prog fn_arena_marks sg_arena_marks arena_marks := fn_of (P := Go.Proofs.Try.prog) (f := fn_arena_marks) (sg := sg_arena_marks) (sgs := []) (Gd := fun LP gs => arena_marks_g LP) (hn := []) (h := [(8, false, ⟨[(5, .gr 0), (10, .vs 0 (.int .i64)), (11, .it .i64), (12, .it .i64)], [.gs true (.boo)]⟩)]) (()) trivial (by kernel_rfl) (by kernel_rfl)

/-- arena.list -/
abbrev fn_arena_list : FuncId := 40
def sg_arena_list : Sig := ⟨⟨[(0, .ag [.vs 0 (.pr (.int .i64) (.pr (.int .i64) (.int .i64))), .it .i64])], []⟩, [⟨[(0, .gr 0), (1, .bo)], [.gs true (.int .i64)]⟩]⟩
def arena_list_g (LP : LPT) (arena_empty : (Int × Int × Int) → Option (Bool)) : ((List (Int × Int × Int)) × Int) → Option (Bool × List Int) := fun (x1, x2) =>
  LP (Int × ((List (Int × Int × Int)) × Int) × List Int) (Bool × List Int) (fun (x3, (x4, x5), x6) =>
    bif !decide (x3 = (-1)) then 
        (bif !(decide (x3 < (0 : Int))) then 
            (bif !(decide ((x4.length : Int) ≤ x3)) then 
                (bif !(decide ((x6.length : Int) = (x4.length : Int))) then 
                    (bif decide (0 ≤ x3) && decide (x3 < (x4.length : Int)) then 
                      ((arena_empty ((Ty.at (.pr (.int .i64) (.pr (.int .i64) (.int .i64))) x4 x3.toNat).1, ((Ty.at (.pr (.int .i64) (.pr (.int .i64) (.int .i64))) x4 x3.toNat).2).1, ((Ty.at (.pr (.int .i64) (.pr (.int .i64) (.int .i64))) x4 x3.toNat).2).2)).bind fun x7 => 
                        (bif !x7 then some (.inr (false, []))
                        else 
                          (bif decide ((x6.length + ([x3]).length) * 8 ≤ 140737488355328) then 
                            (bif decide (0 ≤ x3) && decide (x3 < (x4.length : Int)) then some (.inl (((Ty.at (.pr (.int .i64) (.pr (.int .i64) (.int .i64))) x4 x3.toNat).2).2, (x4, x5), x6 ++ ([x3])))
                              else none)
                            else none)))
                      else none)
                else some (.inr (false, [])))
            else some (.inr (false, [])))
        else some (.inr (false, [])))
    else some (.inr (true, x6)))
    (x2, (x1, x2), [])
def arena_list : ((List (Int × Int × Int)) × Int) → Option (Bool × List Int) := arena_list_g LOOPx arena_empty
theorem arena_list_ok : FnOK Go.Proofs.Try.prog fn_arena_list sg_arena_list arena_list := fn_of (P := Go.Proofs.Try.prog) (f := fn_arena_list) (sg := sg_arena_list) (sgs := [(fn_arena_empty, sg_arena_empty)]) (Gd := fun LP gs => arena_list_g LP gs.1) (hn := []) (h := [(6, false, ⟨[(1, .pt 0 0), (2, .gr 1), (4, .it .i64)], [.va [.vs 0 (.pr (.int .i64) (.pr (.int .i64) (.int .i64))), .it .i64], .gs true (.int .i64)]⟩)]) (arena_empty, ()) ⟨arena_empty_ok, trivial⟩ (by kernel_rfl) (by kernel_rfl)

/-- arena.Right -/
abbrev fn_arena_Right : FuncId := 30
def sg_arena_Right : Sig := ⟨⟨[(0, .ag [.vs 0 (.pr (.int .i64) (.pr (.int .i64) (.int .i64))), .it .i64])], []⟩, [⟨[(0, .bo)], []⟩]⟩
def arena_Right_g (LP : LPT) (arena_marks : (Int × List Int) → Option (List Bool)) (arena_list : ((List (Int × Int × Int)) × Int) → Option (Bool × List Int)) : ((List (Int × Int × Int)) × Int) → Option (Bool) := fun (x1, x2) =>
  (arena_list (x1, x2)).bind fun (x3, x4) => 
    (bif !(!x3) then 
        (bif decide ((64 : Int) < (x1.length : Int)) then some false
        else 
          ((arena_marks ((x1.length : Int), x4)).bind fun x5 => 
            (LP (((List (Int × Int × Int)) × Int × Int) × List Bool) (Bool) (fun ((x6, x7, x8), x9) =>
              bif decide (x8 < x7) then 
                  (bif decide (0 ≤ x8) && decide (x8 < (x6.length : Int)) then 
                    (bif decide (0 ≤ x8) && decide (x8 < (x9.length : Int)) then 
                      (bif decide (x8.toNat < x9.length) then 
                        (bif Ty.at (.boo) x9 x8.toNat then some (.inl ((x6, x7, IntKind.i64.wrap (x8 + (1 : Int))), x9))
                        else 
                          (bif !(decide (((Ty.at (.pr (.int .i64) (.pr (.int .i64) (.int .i64))) x6 x8.toNat).1) < (0 : Int))) then 
                              (bif !(decide ((((Ty.at (.pr (.int .i64) (.pr (.int .i64) (.int .i64))) x6 x8.toNat).2).1) < (0 : Int))) then 
                                  (bif !decide ((((Ty.at (.pr (.int .i64) (.pr (.int .i64) (.int .i64))) x6 x8.toNat).2).2) = (-1)) then 
                                      (bif !(decide ((((Ty.at (.pr (.int .i64) (.pr (.int .i64) (.int .i64))) x6 x8.toNat).2).2) < (0 : Int))) then 
                                          (bif !(decide ((x9.length : Int) ≤ (((Ty.at (.pr (.int .i64) (.pr (.int .i64) (.int .i64))) x6 x8.toNat).2).2))) then 
                                              (bif decide (0 ≤ ((Ty.at (.pr (.int .i64) (.pr (.int .i64) (.int .i64))) x6 x8.toNat).2).2) && decide (((Ty.at (.pr (.int .i64) (.pr (.int .i64) (.int .i64))) x6 x8.toNat).2).2 < (x9.length : Int)) then 
                                                (bif decide ((((Ty.at (.pr (.int .i64) (.pr (.int .i64) (.int .i64))) x6 x8.toNat).2).2).toNat < x9.length) then 
                                                  (bif Ty.at (.boo) x9 ((((Ty.at (.pr (.int .i64) (.pr (.int .i64) (.int .i64))) x6 x8.toNat).2).2).toNat) then some (.inr false)
                                                  else some (.inl ((x6, x7, IntKind.i64.wrap (x8 + (1 : Int))), x9)))
                                                  else none)
                                                else none)
                                          else some (.inr false))
                                      else some (.inr false))
                                  else some (.inl ((x6, x7, IntKind.i64.wrap (x8 + (1 : Int))), x9)))
                              else some (.inr false))
                          else some (.inr false)))
                        else none)
                      else none)
                    else none)
              else some (.inr true))
              ((x1, (x1.length : Int), 0), x5))))
    else some false)
def arena_Right : ((List (Int × Int × Int)) × Int) → Option (Bool) := arena_Right_g LOOPx arena_marks arena_list
theorem arena_Right_ok : FnOK Go.Proofs.Try.prog fn_arena_Right sg_arena_Right arena_Right := fn_of (P := Go.Proofs.Try.prog) (f := fn_arena_Right) (sg := sg_arena_Right) (sgs := [(fn_arena_marks, sg_arena_marks), (fn_arena_list, sg_arena_list)]) (Gd := fun LP gs => arena_Right_g LP gs.1 gs.2.1) (hn := []) (h := [(18, false, ⟨[(5, .gr 0), (27, .vs 0 (.pr (.int .i64) (.pr (.int .i64) (.int .i64)))), (28, .it .i64), (29, .it .i64)], [.gs true (.boo)]⟩)]) (arena_marks, arena_list, ()) ⟨arena_marks_ok, arena_list_ok, trivial⟩ (by kernel_rfl) (by kernel_rfl)

/-- torporref07.walk -/
abbrev fn_torporref07_walk : FuncId := 36
def sg_torporref07_walk : Sig := ⟨⟨[(0, .ag [.vs 0 (.pr (.int .i64) (.pr (.int .i64) (.int .i64))), .it .i64])], []⟩, [⟨[(0, .gr 0), (1, .bo)], [.gs true (.int .i64)]⟩]⟩
def torporref07_walk_g (LP : LPT) (torporref07_Has : ((List Int) × Int) → Option (Bool)) : ((List (Int × Int × Int)) × Int) → Option (Bool × List Int) := fun (x1, x2) =>
  LP (Int × ((List (Int × Int × Int)) × Int) × List Int) (Bool × List Int) (fun (x3, (x4, x5), x6) =>
    bif !decide (x3 = (-1)) then 
        (bif !(decide (x3 < (0 : Int))) then 
            (bif !(decide ((x4.length : Int) ≤ x3)) then 
                ((torporref07_Has (x6, x3)).bind fun x7 => 
                  (bif !x7 then 
                      (bif decide (0 ≤ x3) && decide (x3 < (x4.length : Int)) then 
                        (bif !(!decide (((Ty.at (.pr (.int .i64) (.pr (.int .i64) (.int .i64))) x4 x3.toNat).1) = (-1))) then 
                            (bif decide (0 ≤ x3) && decide (x3 < (x4.length : Int)) then 
                              (bif !decide ((((Ty.at (.pr (.int .i64) (.pr (.int .i64) (.int .i64))) x4 x3.toNat).2).1) = (-1)) then some (.inr (false, []))
                              else 
                                (bif decide ((x6.length + ([x3]).length) * 8 ≤ 140737488355328) then 
                                  (bif decide (0 ≤ x3) && decide (x3 < (x4.length : Int)) then some (.inl (((Ty.at (.pr (.int .i64) (.pr (.int .i64) (.int .i64))) x4 x3.toNat).2).2, (x4, x5), x6 ++ ([x3])))
                                    else none)
                                  else none))
                              else none)
                        else some (.inr (false, [])))
                        else none)
                  else some (.inr (false, []))))
            else some (.inr (false, [])))
        else some (.inr (false, [])))
    else some (.inr (true, x6)))
    (x2, (x1, x2), [])
def torporref07_walk : ((List (Int × Int × Int)) × Int) → Option (Bool × List Int) := torporref07_walk_g LOOPx torporref07_Has
theorem torporref07_walk_ok : FnOK Go.Proofs.Try.prog fn_torporref07_walk sg_torporref07_walk torporref07_walk := fn_of (P := Go.Proofs.Try.prog) (f := fn_torporref07_walk) (sg := sg_torporref07_walk) (sgs := [(fn_torporref07_Has, sg_torporref07_Has)]) (Gd := fun LP gs => torporref07_walk_g LP gs.1) (hn := []) (h := [(8, false, ⟨[(1, .pt 0 0), (4, .gr 1), (5, .it .i64)], [.va [.vs 0 (.pr (.int .i64) (.pr (.int .i64) (.int .i64))), .it .i64], .gs true (.int .i64)]⟩)]) (torporref07_Has, ()) ⟨torporref07_Has_ok, trivial⟩ (by kernel_rfl) (by kernel_rfl)

/-- torporref07.Right -/
abbrev fn_torporref07_Right : FuncId := 35
def sg_torporref07_Right : Sig := ⟨⟨[(0, .ag [.vs 0 (.pr (.int .i64) (.pr (.int .i64) (.int .i64))), .it .i64])], []⟩, [⟨[(0, .bo)], []⟩]⟩
def torporref07_Right_g (LP : LPT) (torporref07_Has : ((List Int) × Int) → Option (Bool)) (torporref07_walk : ((List (Int × Int × Int)) × Int) → Option (Bool × List Int)) : ((List (Int × Int × Int)) × Int) → Option (Bool) := fun (x1, x2) =>
  bif decide ((64 : Int) < (x1.length : Int)) then some false
  else 
    ((torporref07_walk (x1, x2)).bind fun (x3, x4) => 
      (bif !x3 then some false
      else 
        (LP (Int × ((List (Int × Int × Int)) × Int) × List Int) (Bool) (fun (x5, (x6, x7), x8) =>
          bif decide (x5 < (x6.length : Int)) then 
              (bif decide (0 ≤ x5) && decide (x5 < (x6.length : Int)) then 
                ((torporref07_Has (x8, x5)).bind fun x9 => 
                  (bif x9 then some (.inl (IntKind.i64.wrap (x5 + (1 : Int)), (x6, x7), x8))
                  else 
                    (bif !(decide (((Ty.at (.pr (.int .i64) (.pr (.int .i64) (.int .i64))) x6 x5.toNat).1) < (0 : Int))) then 
                        (bif !(decide ((((Ty.at (.pr (.int .i64) (.pr (.int .i64) (.int .i64))) x6 x5.toNat).2).1) < (0 : Int))) then 
                            (bif !(decide ((((Ty.at (.pr (.int .i64) (.pr (.int .i64) (.int .i64))) x6 x5.toNat).2).2) < (-1))) then 
                                (bif !(decide ((x6.length : Int) ≤ (((Ty.at (.pr (.int .i64) (.pr (.int .i64) (.int .i64))) x6 x5.toNat).2).2))) then 
                                    ((torporref07_Has (x8, ((Ty.at (.pr (.int .i64) (.pr (.int .i64) (.int .i64))) x6 x5.toNat).2).2)).bind fun x10 => 
                                      (bif x10 then some (.inr false)
                                      else some (.inl (IntKind.i64.wrap (x5 + (1 : Int)), (x6, x7), x8))))
                                else some (.inr false))
                            else some (.inr false))
                        else some (.inr false))
                    else some (.inr false))))
                else none)
          else some (.inr true))
          (0, (x1, x2), x4))))
def torporref07_Right : ((List (Int × Int × Int)) × Int) → Option (Bool) := torporref07_Right_g LOOPx torporref07_Has torporref07_walk
theorem torporref07_Right_ok : FnOK Go.Proofs.Try.prog fn_torporref07_Right sg_torporref07_Right torporref07_Right := fn_of (P := Go.Proofs.Try.prog) (f := fn_torporref07_Right) (sg := sg_torporref07_Right) (sgs := [(fn_torporref07_Has, sg_torporref07_Has), (fn_torporref07_walk, sg_torporref07_walk)]) (Gd := fun LP gs => torporref07_Right_g LP gs.1 gs.2.1) (hn := []) (h := [(24, false, ⟨[(1, .pt 0 0), (3, .gr 1), (5, .it .i64)], [.va [.vs 0 (.pr (.int .i64) (.pr (.int .i64) (.int .i64))), .it .i64], .gs true (.int .i64)]⟩)]) (torporref07_Has, torporref07_walk, ()) ⟨torporref07_Has_ok, torporref07_walk_ok, trivial⟩ (by kernel_rfl) (by kernel_rfl)

/-- torporref07.Free -/
abbrev fn_torporref07_Free : FuncId := 25
def sg_torporref07_Free : Sig := ⟨⟨[(0, .ag [.vs 0 (.pr (.int .i64) (.pr (.int .i64) (.int .i64))), .it .i64])], []⟩, [⟨[(0, .gr 0)], [.gs true (.int .i64)]⟩]⟩
def torporref07_Free_g (LP : LPT) (torporref07_walk : ((List (Int × Int × Int)) × Int) → Option (Bool × List Int)) (torporref07_Right : ((List (Int × Int × Int)) × Int) → Option (Bool)) : ((List (Int × Int × Int)) × Int) → Option (List Int) := fun (x1, x2) =>
  (torporref07_Right (x1, x2)).bind fun x3 => 
    (bif !x3 then some ([])
    else 
      ((torporref07_walk (x1, x2)).bind fun (x4, x5) => some x5))
def torporref07_Free : ((List (Int × Int × Int)) × Int) → Option (List Int) := torporref07_Free_g LOOPx torporref07_walk torporref07_Right
theorem torporref07_Free_ok : FnOK Go.Proofs.Try.prog fn_torporref07_Free sg_torporref07_Free torporref07_Free := fn_of (P := Go.Proofs.Try.prog) (f := fn_torporref07_Free) (sg := sg_torporref07_Free) (sgs := [(fn_torporref07_walk, sg_torporref07_walk), (fn_torporref07_Right, sg_torporref07_Right)]) (Gd := fun LP gs => torporref07_Free_g LP gs.1 gs.2.1) (hn := []) (h := []) (torporref07_walk, torporref07_Right, ()) ⟨torporref07_walk_ok, torporref07_Right_ok, trivial⟩ (by kernel_rfl) (by kernel_rfl)

/-- torporref07.Live -/
abbrev fn_torporref07_Live : FuncId := 42
def sg_torporref07_Live : Sig := ⟨⟨[(0, .ag [.vs 0 (.pr (.int .i64) (.pr (.int .i64) (.int .i64))), .it .i64]), (1, .it .i64)], []⟩, [⟨[(0, .bo)], []⟩]⟩
def torporref07_Live_g (LP : LPT) (torporref07_Has : ((List Int) × Int) → Option (Bool)) (torporref07_Free : ((List (Int × Int × Int)) × Int) → Option (List Int)) : (((List (Int × Int × Int)) × Int) × Int) → Option (Bool) := fun ((x1, x2), x3) =>
  bif decide ((0 : Int) ≤ x3) then 
      (bif decide (x3 < (x1.length : Int)) then 
          ((torporref07_Free (x1, x2)).bind fun x4 => 
            ((torporref07_Has (x4, x3)).bind fun x5 => some (!x5)))
      else some false)
  else some false
def torporref07_Live : (((List (Int × Int × Int)) × Int) × Int) → Option (Bool) := torporref07_Live_g LOOPx torporref07_Has torporref07_Free
theorem torporref07_Live_ok : FnOK Go.Proofs.Try.prog fn_torporref07_Live sg_torporref07_Live torporref07_Live := fn_of (P := Go.Proofs.Try.prog) (f := fn_torporref07_Live) (sg := sg_torporref07_Live) (sgs := [(fn_torporref07_Has, sg_torporref07_Has), (fn_torporref07_Free, sg_torporref07_Free)]) (Gd := fun LP gs => torporref07_Live_g LP gs.1 gs.2.1) (hn := []) (h := []) (torporref07_Has, torporref07_Free, ()) ⟨torporref07_Has_ok, torporref07_Free_ok, trivial⟩ (by kernel_rfl) (by kernel_rfl)

/-- torporref07.Copy -/
abbrev fn_torporref07_Copy : FuncId := 8
def sg_torporref07_Copy : Sig := ⟨⟨[(0, .ag [.vs 0 (.pr (.int .i64) (.pr (.int .i64) (.int .i64))), .it .i64])], []⟩, [⟨[(0, .ag [.gr 0, .it .i64])], [.gs true (.pr (.int .i64) (.pr (.int .i64) (.int .i64)))]⟩]⟩
def torporref07_Copy_g (LP : LPT) : ((List (Int × Int × Int)) × Int) → Option (Int × List (Int × Int × Int)) := fun (x1, x2) =>
  bif decide ((([] : List (Int × Int × Int)).length + x1.length) * 24 ≤ 140737488355328) then some (x2, ([] : List (Int × Int × Int)) ++ x1)
    else none
def torporref07_Copy : ((List (Int × Int × Int)) × Int) → Option (Int × List (Int × Int × Int)) := torporref07_Copy_g LOOPx
theorem torporref07_Copy_ok : FnOK Go.Proofs.Try.prog fn_torporref07_Copy sg_torporref07_Copy torporref07_Copy := fn_of (P := Go.Proofs.Try.prog) (f := fn_torporref07_Copy) (sg := sg_torporref07_Copy) (sgs := []) (Gd := fun LP gs => torporref07_Copy_g LP) (hn := []) (h := []) (()) trivial (by kernel_rfl) (by kernel_rfl)

/-- torporref07.Same -/
abbrev fn_torporref07_Same : FuncId := 13
def sg_torporref07_Same : Sig := ⟨⟨[(0, .ag [.vs 0 (.pr (.int .i64) (.pr (.int .i64) (.int .i64))), .it .i64]), (1, .ag [.vs 0 (.pr (.int .i64) (.pr (.int .i64) (.int .i64))), .it .i64])], []⟩, [⟨[(0, .bo)], []⟩]⟩
def torporref07_Same_g (LP : LPT) : (((List (Int × Int × Int)) × Int) × (List (Int × Int × Int)) × Int) → Option (Bool) := fun ((x1, x2), x3, x4) =>
  bif !(!decide (x2 = x4)) then 
      (bif !decide ((x1.length : Int) = (x3.length : Int)) then some false
      else 
        (LP (Int × ((List (Int × Int × Int)) × Int) × (List (Int × Int × Int)) × Int) (Bool) (fun (x5, (x6, x7), x8, x9) =>
          bif decide (x5 < (x6.length : Int)) then 
              (bif decide (0 ≤ x5) && decide (x5 < (x6.length : Int)) then 
                (bif decide (0 ≤ x5) && decide (x5 < (x8.length : Int)) then 
                  (bif !((((Ty.at (.pr (.int .i64) (.pr (.int .i64) (.int .i64))) x6 x5.toNat).1) == ((Ty.at (.pr (.int .i64) (.pr (.int .i64) (.int .i64))) x8 x5.toNat).1)) && (((((Ty.at (.pr (.int .i64) (.pr (.int .i64) (.int .i64))) x6 x5.toNat).2).1) == (((Ty.at (.pr (.int .i64) (.pr (.int .i64) (.int .i64))) x8 x5.toNat).2).1)) && (((((Ty.at (.pr (.int .i64) (.pr (.int .i64) (.int .i64))) x6 x5.toNat).2).2) == (((Ty.at (.pr (.int .i64) (.pr (.int .i64) (.int .i64))) x8 x5.toNat).2).2)) && true))) then some (.inr false)
                  else some (.inl (IntKind.i64.wrap (x5 + (1 : Int)), (x6, x7), x8, x9)))
                  else none)
                else none)
          else some (.inr true))
          (0, (x1, x2), x3, x4)))
  else some false
def torporref07_Same : (((List (Int × Int × Int)) × Int) × (List (Int × Int × Int)) × Int) → Option (Bool) := torporref07_Same_g LOOPx
theorem torporref07_Same_ok : FnOK Go.Proofs.Try.prog fn_torporref07_Same sg_torporref07_Same torporref07_Same := fn_of (P := Go.Proofs.Try.prog) (f := fn_torporref07_Same) (sg := sg_torporref07_Same) (sgs := []) (Gd := fun LP gs => torporref07_Same_g LP) (hn := []) (h := [(14, false, ⟨[(2, .pt 0 0), (3, .pt 1 0), (5, .it .i64)], [.va [.vs 0 (.pr (.int .i64) (.pr (.int .i64) (.int .i64))), .it .i64], .va [.vs 0 (.pr (.int .i64) (.pr (.int .i64) (.int .i64))), .it .i64]]⟩)]) (()) trivial (by kernel_rfl) (by kernel_rfl)

/-- torporref07.Make -/
abbrev fn_torporref07_Make : FuncId := 23
def sg_torporref07_Make : Sig := ⟨⟨[(0, .it .i64)], []⟩, [⟨[(0, .ag [.gr 0, .it .i64]), (1, .it .i64)], [.gs true (.pr (.int .i64) (.pr (.int .i64) (.int .i64)))]⟩]⟩
def torporref07_Make_g (LP : LPT) : Int → Option ((Int × Int) × List (Int × Int × Int)) := fun x1 =>
  bif !(decide (x1 < (0 : Int))) then 
      (bif decide ((64 : Int) < x1) then some ((0, 1), [])
      else 
        (LP (Int × Int × Int × List (Int × Int × Int)) ((Int × Int) × List (Int × Int × Int)) (fun (x2, x3, x4, x5) =>
          bif decide ((0 : Int) ≤ x2) then 
              (bif decide ((([((-1), (-1), x4)]).length + x5.length) * 24 ≤ 140737488355328) then some (.inl (IntKind.i64.wrap (x2 - (1 : Int)), x3, x2, ([((-1), (-1), x4)]) ++ x5))
                else none)
          else some (.inr ((x4, 0), x5)))
          (IntKind.i64.wrap (x1 - (1 : Int)), 0, (-1), [])))
  else some ((0, 1), [])
def torporref07_Make : Int → Option ((Int × Int) × List (Int × Int × Int)) := torporref07_Make_g LOOPx
theorem torporref07_Make_ok : FnOK Go.Proofs.Try.prog fn_torporref07_Make sg_torporref07_Make torporref07_Make := fn_of (P := Go.Proofs.Try.prog) (f := fn_torporref07_Make) (sg := sg_torporref07_Make) (sgs := []) (Gd := fun LP gs => torporref07_Make_g LP) (hn := []) (h := [(16, false, ⟨[(2, .pt 0 0), (4, .pt 1 0), (5, .it .i64)], [.va [.sn, .it .i64], .va [.gr 2, .it .i64], .gs true (.pr (.int .i64) (.pr (.int .i64) (.int .i64)))]⟩)]) (()) trivial (by kernel_rfl) (by kernel_rfl)

/-- torporref07.Take -/
abbrev fn_torporref07_Take : FuncId := 33
def sg_torporref07_Take : Sig := ⟨⟨[(0, .ag [.vs 0 (.pr (.int .i64) (.pr (.int .i64) (.int .i64))), .it .i64]), (1, .it .i64), (2, .it .i64)], []⟩, [⟨[(0, .ag [.vs 0 (.pr (.int .i64) (.pr (.int .i64) (.int .i64))), .it .i64]), (1, .it .i64), (2, .it .i64)], []⟩]⟩
def torporref07_Take_g (LP : LPT) (torporref07_Right : ((List (Int × Int × Int)) × Int) → Option (Bool)) (torporref07_Copy : ((List (Int × Int × Int)) × Int) → Option (Int × List (Int × Int × Int))) : (((List (Int × Int × Int)) × Int) × Int × Int) → Option (((List (Int × Int × Int)) × Int) × Int × Int) := fun ((x1, x2), x3, x4) =>
  (torporref07_Right (x1, x2)).bind fun x5 => 
    (bif !(!x5) then 
        (bif !(decide (x3 < (0 : Int))) then 
            (bif decide (x4 < (0 : Int)) then some ((x1, x2), 0, 1)
            else 
              (bif decide (x2 = (-1)) then some ((x1, x2), 0, 6)
              else 
                ((torporref07_Copy (x1, x2)).bind fun (x6, x7) => 
                  (bif decide (0 ≤ x2) && decide (x2 < (x1.length : Int)) then 
                    (bif decide (0 ≤ x2) && decide (x2 < (x7.length : Int)) then 
                      (bif decide (x2.toNat < x7.length) then some ((x7.set x2.toNat (x3, x4, (-1)), ((Ty.at (.pr (.int .i64) (.pr (.int .i64) (.int .i64))) x1 x2.toNat).2).2), x2, 0)
                        else none)
                      else none)
                    else none))))
        else some ((x1, x2), 0, 1))
    else some ((x1, x2), 0, 1))
def torporref07_Take : (((List (Int × Int × Int)) × Int) × Int × Int) → Option (((List (Int × Int × Int)) × Int) × Int × Int) := torporref07_Take_g LOOPx torporref07_Right torporref07_Copy
theorem torporref07_Take_ok : FnOK Go.Proofs.Try.prog fn_torporref07_Take sg_torporref07_Take torporref07_Take := fn_of (P := Go.Proofs.Try.prog) (f := fn_torporref07_Take) (sg := sg_torporref07_Take) (sgs := [(fn_torporref07_Right, sg_torporref07_Right), (fn_torporref07_Copy, sg_torporref07_Copy)]) (Gd := fun LP gs => torporref07_Take_g LP gs.1 gs.2.1) (hn := []) (h := []) (torporref07_Right, torporref07_Copy, ()) ⟨torporref07_Right_ok, torporref07_Copy_ok, trivial⟩ (by kernel_rfl) (by kernel_rfl)

/-- torporref07.Give -/
abbrev fn_torporref07_Give : FuncId := 39
def sg_torporref07_Give : Sig := ⟨⟨[(0, .ag [.vs 0 (.pr (.int .i64) (.pr (.int .i64) (.int .i64))), .it .i64]), (1, .it .i64)], []⟩, [⟨[(0, .ag [.vs 0 (.pr (.int .i64) (.pr (.int .i64) (.int .i64))), .it .i64]), (1, .it .i64)], []⟩]⟩
def torporref07_Give_g (LP : LPT) (torporref07_Right : ((List (Int × Int × Int)) × Int) → Option (Bool)) (torporref07_Live : (((List (Int × Int × Int)) × Int) × Int) → Option (Bool)) (torporref07_Copy : ((List (Int × Int × Int)) × Int) → Option (Int × List (Int × Int × Int))) : (((List (Int × Int × Int)) × Int) × Int) → Option (((List (Int × Int × Int)) × Int) × Int) := fun ((x1, x2), x3) =>
  (torporref07_Right (x1, x2)).bind fun x4 => 
    (bif !x4 then some ((x1, x2), 1)
    else 
      ((torporref07_Live ((x1, x2), x3)).bind fun x5 => 
        (bif !x5 then some ((x1, x2), 7)
        else 
          (Option.bind (α := (Int × ((List (Int × Int × Int)) × Int) × Int) ⊕ (((List (Int × Int × Int)) × Int) × Int)) (β := ((List (Int × Int × Int)) × Int) × Int) (LP ((Int × Int) × ((List (Int × Int × Int)) × Int) × Int) ((Int × ((List (Int × Int × Int)) × Int) × Int) ⊕ (((List (Int × Int × Int)) × Int) × Int)) (fun ((x6, x7), (x8, x9), x10) =>
              bif decide (x7 < (x8.length : Int)) then 
                  ((torporref07_Live ((x8, x9), x7)).bind fun x11 => 
                    (bif x11 then 
                        (bif decide (0 ≤ x7) && decide (x7 < (x8.length : Int)) then 
                          (bif decide ((((Ty.at (.pr (.int .i64) (.pr (.int .i64) (.int .i64))) x8 x7.toNat).2).2) = x6) then some (.inr (.inr ((x8, x9), 8)))
                          else some (.inl ((x6, IntKind.i64.wrap (x7 + (1 : Int))), (x8, x9), x10)))
                          else none)
                    else some (.inl ((x6, IntKind.i64.wrap (x7 + (1 : Int))), (x8, x9), x10))))
              else some (.inr (.inl (x6, (x8, x9), x10))))
              ((x3, 0), (x1, x2), 0))
            fun z => match z with
            | .inl (x12, (x13, x14), x15) => (torporref07_Copy (x13, x14)).bind fun (x16, x17) => 
                (bif decide (0 ≤ x12) && decide (x12 < (x17.length : Int)) then 
                  (bif decide (x12.toNat < x17.length) then some ((x17.set x12.toNat ((-1), (-1), x14), x12), 0)
                    else none)
                  else none)
            | .inr o => some o))))
def torporref07_Give : (((List (Int × Int × Int)) × Int) × Int) → Option (((List (Int × Int × Int)) × Int) × Int) := torporref07_Give_g LOOPx torporref07_Right torporref07_Live torporref07_Copy
theorem torporref07_Give_ok : FnOK Go.Proofs.Try.prog fn_torporref07_Give sg_torporref07_Give torporref07_Give := fn_of (P := Go.Proofs.Try.prog) (f := fn_torporref07_Give) (sg := sg_torporref07_Give) (sgs := [(fn_torporref07_Right, sg_torporref07_Right), (fn_torporref07_Live, sg_torporref07_Live), (fn_torporref07_Copy, sg_torporref07_Copy)]) (Gd := fun LP gs => torporref07_Give_g LP gs.1 gs.2.1 gs.2.2.1) (hn := []) (h := [(19, true, ⟨[(1, .it .i64), (2, .pt 0 0), (4, .pt 1 0)], [.va [.vs 0 (.pr (.int .i64) (.pr (.int .i64) (.int .i64))), .it .i64], .va [.sn, .it .i64]]⟩), (22, false, ⟨[(1, .it .i64), (2, .pt 0 0), (4, .pt 1 0), (6, .it .i64)], [.va [.vs 0 (.pr (.int .i64) (.pr (.int .i64) (.int .i64))), .it .i64], .va [.sn, .it .i64]]⟩)]) (torporref07_Right, torporref07_Live, torporref07_Copy, ()) ⟨torporref07_Right_ok, torporref07_Live_ok, torporref07_Copy_ok, trivial⟩ (by kernel_rfl) (by kernel_rfl)

/-- slices.Clone[[]api.Rec,api.Rec] -/
abbrev fn_Clone_Rec : FuncId := 37
def sg_Clone_Rec : Sig := sgClone (.pr (.int .i64) (.pr (.int .i64) (.int .i64)))
def Clone_Rec : (List (Int × Int × Int)) → Option (List (Int × Int × Int)) := cloneG (.pr (.int .i64) (.pr (.int .i64) (.int .i64))) 24
theorem Clone_Rec_ok : FnOK Go.Proofs.Try.prog fn_Clone_Rec sg_Clone_Rec Clone_Rec := clone_ok (.pr (.int .i64) (.pr (.int .i64) (.int .i64))) 24 (by kernel_rfl) (by kernel_rfl) (by kernel_rfl)

/-- slices.Index[[]int,int] -/
abbrev fn_Index_int : FuncId := 28
def sg_Index_int : Sig := ⟨⟨[(0, .vs 0 (.int .i64)), (1, .it .i64)], []⟩, [⟨[(0, .it .i64)], []⟩]⟩
def Index_int_g (LP : LPT) : ((List Int) × Int) → Option (Int) := fun (x1, x2) =>
  LP ((List Int) × Int × Int × Int) (Int) (fun (x3, x4, x5, x6) =>
    bif decide (x6 < x5) then 
        (bif decide (0 ≤ x6) && decide (x6 < (x3.length : Int)) then 
          (bif decide (x4 = (Ty.at (.int .i64) x3 x6.toNat)) then some (.inr x6)
          else some (.inl (x3, x4, x5, IntKind.i64.wrap (x6 + (1 : Int)))))
          else none)
    else some (.inr (-1)))
    (x1, x2, (x1.length : Int), 0)
def Index_int : ((List Int) × Int) → Option (Int) := Index_int_g LOOPx
theorem Index_int_ok : FnOK Go.Proofs.Try.prog fn_Index_int sg_Index_int Index_int := fn_of (P := Go.Proofs.Try.prog) (f := fn_Index_int) (sg := sg_Index_int) (sgs := []) (Gd := fun LP gs => Index_int_g LP) (hn := []) (h := [(6, false, ⟨[(0, .vs 0 (.int .i64)), (1, .it .i64), (7, .it .i64), (8, .it .i64)], []⟩)]) (()) trivial (by kernel_rfl) (by kernel_rfl)

/-- arena.own -/
abbrev fn_arena_own : FuncId := 43
def sg_arena_own : Sig := ⟨⟨[(0, .ag [.vs 0 (.pr (.int .i64) (.pr (.int .i64) (.int .i64))), .it .i64])], []⟩, [⟨[(0, .ag [.gr 0, .it .i64])], [.gs true (.pr (.int .i64) (.pr (.int .i64) (.int .i64)))]⟩]⟩
def arena_own_g (LP : LPT) (Clone_Rec : (List (Int × Int × Int)) → Option (List (Int × Int × Int))) : ((List (Int × Int × Int)) × Int) → Option (Int × List (Int × Int × Int)) := fun (x1, x2) =>
  (Clone_Rec x1).bind fun x3 => some (x2, x3)
def arena_own : ((List (Int × Int × Int)) × Int) → Option (Int × List (Int × Int × Int)) := arena_own_g LOOPx Clone_Rec
theorem arena_own_ok : FnOK Go.Proofs.Try.prog fn_arena_own sg_arena_own arena_own := fn_of (P := Go.Proofs.Try.prog) (f := fn_arena_own) (sg := sg_arena_own) (sgs := [(fn_Clone_Rec, sg_Clone_Rec)]) (Gd := fun LP gs => arena_own_g LP gs.1) (hn := []) (h := []) (Clone_Rec, ()) ⟨Clone_Rec_ok, trivial⟩ (by kernel_rfl) (by kernel_rfl)

/-- arena.Take -/
abbrev fn_arena_Take : FuncId := 32
def sg_arena_Take : Sig := ⟨⟨[(0, .ag [.vs 0 (.pr (.int .i64) (.pr (.int .i64) (.int .i64))), .it .i64]), (1, .it .i64), (2, .it .i64)], []⟩, [⟨[(0, .ag [.gr 0, .it .i64]), (1, .it .i64), (2, .it .i64)], [.gs true (.pr (.int .i64) (.pr (.int .i64) (.int .i64)))]⟩, ⟨[(0, .ag [.vs 0 (.pr (.int .i64) (.pr (.int .i64) (.int .i64))), .it .i64]), (1, .it .i64), (2, .it .i64)], []⟩]⟩
def arena_Take_g (LP : LPT) (arena_Right : ((List (Int × Int × Int)) × Int) → Option (Bool)) (arena_own : ((List (Int × Int × Int)) × Int) → Option (Int × List (Int × Int × Int))) : (((List (Int × Int × Int)) × Int) × Int × Int) → Option (((Int × Int × Int) × List (Int × Int × Int)) ⊕ (((List (Int × Int × Int)) × Int) × Int × Int)) := fun ((x1, x2), x3, x4) =>
  bif !(decide (x3 < (0 : Int))) then 
      (bif !(decide (x4 < (0 : Int))) then 
          ((arena_Right (x1, x2)).bind fun x5 => 
            (bif !x5 then some (.inr (((x1, x2), 0, 1)))
            else 
              (bif decide (x2 = (-1)) then some (.inr (((x1, x2), 0, 6)))
              else 
                ((arena_own (x1, x2)).bind fun (x6, x7) => 
                  (bif decide (0 ≤ x6) && decide (x6 < (x7.length : Int)) then 
                    (bif decide (x6.toNat < x7.length) then 
                      (bif decide (0 ≤ x6) && decide (x6 < (x7.length : Int)) then 
                        (bif decide (x6.toNat < x7.length) then some (.inl ((((Ty.at (.pr (.int .i64) (.pr (.int .i64) (.int .i64))) x7 x6.toNat).2).2, x6, 0), x7.set x6.toNat (x3, x4, (-1))))
                          else none)
                        else none)
                      else none)
                    else none)))))
      else some (.inr (((x1, x2), 0, 1))))
  else some (.inr (((x1, x2), 0, 1)))
def arena_Take : (((List (Int × Int × Int)) × Int) × Int × Int) → Option (((Int × Int × Int) × List (Int × Int × Int)) ⊕ (((List (Int × Int × Int)) × Int) × Int × Int)) := arena_Take_g LOOPx arena_Right arena_own
theorem arena_Take_ok : FnOK Go.Proofs.Try.prog fn_arena_Take sg_arena_Take arena_Take := fn_of (P := Go.Proofs.Try.prog) (f := fn_arena_Take) (sg := sg_arena_Take) (sgs := [(fn_arena_Right, sg_arena_Right), (fn_arena_own, sg_arena_own)]) (Gd := fun LP gs => arena_Take_g LP gs.1 gs.2.1) (hn := []) (h := []) (arena_Right, arena_own, ()) ⟨arena_Right_ok, arena_own_ok, trivial⟩ (by kernel_rfl) (by kernel_rfl)

/-- arena.Give$1 -/
abbrev fn_arena_Give_1 : FuncId := 44
def sg_arena_Give_1 : Sig := ⟨⟨[(0, .ag [.it .i64, .it .i64, .it .i64]), (1, .pe [.it .i64] 0)], []⟩, [⟨[(0, .bo)], []⟩]⟩
def arena_Give_1_g (LP : LPT) (arena_empty : (Int × Int × Int) → Option (Bool)) : ((Int × Int × Int) × Int) → Option (Bool) := fun ((x1, x2, x3), x4) =>
  (arena_empty (x1, x2, x3)).bind fun x5 => 
    (bif !x5 then some (decide (x3 = x4))
    else some false)
def arena_Give_1 : ((Int × Int × Int) × Int) → Option (Bool) := arena_Give_1_g LOOPx arena_empty
theorem arena_Give_1_ok : FnOK Go.Proofs.Try.prog fn_arena_Give_1 sg_arena_Give_1 arena_Give_1 := fn_of (P := Go.Proofs.Try.prog) (f := fn_arena_Give_1) (sg := sg_arena_Give_1) (sgs := [(fn_arena_empty, sg_arena_empty)]) (Gd := fun LP gs => arena_Give_1_g LP gs.1) (hn := []) (h := []) (arena_empty, ()) ⟨arena_empty_ok, trivial⟩ (by kernel_rfl) (by kernel_rfl)

/-- slices.IndexFunc[[]api.Rec,api.Rec] -/
abbrev fn_IndexFunc_Give : FuncId := 48
def sg_IndexFunc_Give : Sig := ⟨⟨[(0, .vs 0 (.pr (.int .i64) (.pr (.int .i64) (.int .i64)))), (1, .fn 44 [] [.pe [.it .i64] 0])], []⟩, [⟨[(0, .it .i64)], []⟩]⟩
def IndexFunc_Give_g (LP : LPT) (arena_Give_1 : ((Int × Int × Int) × Int) → Option (Bool)) : ((List (Int × Int × Int)) × Int) → Option (Int) := fun (x1, x2) =>
  LP ((List (Int × Int × Int)) × Int × Int × Int) (Int) (fun (x3, x4, x5, x6) =>
    bif decide (x6 < x5) then 
        (bif decide (0 ≤ x6) && decide (x6 < (x3.length : Int)) then 
          ((arena_Give_1 (((Ty.at (.pr (.int .i64) (.pr (.int .i64) (.int .i64))) x3 x6.toNat).1, ((Ty.at (.pr (.int .i64) (.pr (.int .i64) (.int .i64))) x3 x6.toNat).2).1, ((Ty.at (.pr (.int .i64) (.pr (.int .i64) (.int .i64))) x3 x6.toNat).2).2), x4)).bind fun x7 => 
            (bif x7 then some (.inr x6)
            else some (.inl (x3, x4, x5, IntKind.i64.wrap (x6 + (1 : Int))))))
          else none)
    else some (.inr (-1)))
    (x1, x2, (x1.length : Int), 0)
def IndexFunc_Give : ((List (Int × Int × Int)) × Int) → Option (Int) := IndexFunc_Give_g LOOPx arena_Give_1
theorem IndexFunc_Give_ok : FnOK Go.Proofs.Try.prog fn_IndexFunc_Give sg_IndexFunc_Give IndexFunc_Give := fn_of (P := Go.Proofs.Try.prog) (f := fn_IndexFunc_Give) (sg := sg_IndexFunc_Give) (sgs := [(fn_arena_Give_1, sg_arena_Give_1)]) (Gd := fun LP gs => IndexFunc_Give_g LP gs.1) (hn := []) (h := [(6, false, ⟨[(0, .vs 0 (.pr (.int .i64) (.pr (.int .i64) (.int .i64)))), (1, .fn 44 [] [.pe [.it .i64] 0]), (7, .it .i64), (8, .it .i64)], []⟩)]) (arena_Give_1, ()) ⟨arena_Give_1_ok, trivial⟩ (by kernel_rfl) (by kernel_rfl)

/-- slices.ContainsFunc[[]api.Rec,api.Rec] -/
abbrev fn_ContainsFunc_Give : FuncId := 47
def sg_ContainsFunc_Give : Sig := ⟨⟨[(0, .vs 0 (.pr (.int .i64) (.pr (.int .i64) (.int .i64)))), (1, .fn 44 [] [.pe [.it .i64] 0])], []⟩, [⟨[(0, .bo)], []⟩]⟩
def ContainsFunc_Give_g (LP : LPT) (IndexFunc_Give : ((List (Int × Int × Int)) × Int) → Option (Int)) : ((List (Int × Int × Int)) × Int) → Option (Bool) := fun (x1, x2) =>
  (IndexFunc_Give (x1, x2)).bind fun x3 => some (decide ((0 : Int) ≤ x3))
def ContainsFunc_Give : ((List (Int × Int × Int)) × Int) → Option (Bool) := ContainsFunc_Give_g LOOPx IndexFunc_Give
theorem ContainsFunc_Give_ok : FnOK Go.Proofs.Try.prog fn_ContainsFunc_Give sg_ContainsFunc_Give ContainsFunc_Give := fn_of (P := Go.Proofs.Try.prog) (f := fn_ContainsFunc_Give) (sg := sg_ContainsFunc_Give) (sgs := [(fn_IndexFunc_Give, sg_IndexFunc_Give)]) (Gd := fun LP gs => ContainsFunc_Give_g LP gs.1) (hn := []) (h := []) (IndexFunc_Give, ()) ⟨IndexFunc_Give_ok, trivial⟩ (by kernel_rfl) (by kernel_rfl)

/-- arena.Give -/
abbrev fn_arena_Give : FuncId := 38
def sg_arena_Give : Sig := ⟨⟨[(0, .ag [.vs 0 (.pr (.int .i64) (.pr (.int .i64) (.int .i64))), .it .i64]), (1, .it .i64)], []⟩, [⟨[(0, .ag [.vs 0 (.pr (.int .i64) (.pr (.int .i64) (.int .i64))), .it .i64]), (1, .it .i64)], []⟩]⟩
def arena_Give_g (LP : LPT) (arena_taken : (((List (Int × Int × Int)) × Int) × Int) → Option (Bool)) (arena_Right : ((List (Int × Int × Int)) × Int) → Option (Bool)) (arena_own : ((List (Int × Int × Int)) × Int) → Option (Int × List (Int × Int × Int))) (ContainsFunc_Give : ((List (Int × Int × Int)) × Int) → Option (Bool)) : (((List (Int × Int × Int)) × Int) × Int) → Option (((List (Int × Int × Int)) × Int) × Int) := fun ((x1, x2), x3) =>
  (arena_Right (x1, x2)).bind fun x4 => 
    (bif !x4 then some ((x1, x2), 1)
    else 
      ((arena_taken ((x1, x2), x3)).bind fun x5 => 
        (bif !x5 then some ((x1, x2), 7)
        else 
          ((ContainsFunc_Give (x1, x3)).bind fun x6 => 
            (bif x6 then some ((x1, x2), 8)
            else 
              ((arena_own (x1, x2)).bind fun (x7, x8) => 
                (bif decide (0 ≤ x3) && decide (x3 < (x8.length : Int)) then 
                  (bif decide (x3.toNat < x8.length) then some ((x8.set x3.toNat ((-1), (-1), x7), x3), 0)
                    else none)
                  else none)))))))
def arena_Give : (((List (Int × Int × Int)) × Int) × Int) → Option (((List (Int × Int × Int)) × Int) × Int) := arena_Give_g LOOPx arena_taken arena_Right arena_own ContainsFunc_Give
theorem arena_Give_ok : FnOK Go.Proofs.Try.prog fn_arena_Give sg_arena_Give arena_Give := fn_of (P := Go.Proofs.Try.prog) (f := fn_arena_Give) (sg := sg_arena_Give) (sgs := [(fn_arena_taken, sg_arena_taken), (fn_arena_Right, sg_arena_Right), (fn_arena_own, sg_arena_own), (fn_ContainsFunc_Give, sg_ContainsFunc_Give)]) (Gd := fun LP gs => arena_Give_g LP gs.1 gs.2.1 gs.2.2.1 gs.2.2.2.1) (hn := []) (h := []) (arena_taken, arena_Right, arena_own, ContainsFunc_Give, ()) ⟨arena_taken_ok, arena_Right_ok, arena_own_ok, ContainsFunc_Give_ok, trivial⟩ (by kernel_rfl) (by kernel_rfl)

/-- queue.walk -/
abbrev fn_queue_walk : FuncId := 29
def sg_queue_walk : Sig := ⟨⟨[(0, .ag [.vs 0 (.pr (.int .i64) (.pr (.int .i64) (.int .i64))), .it .i64]), (1, .ag [.it .i64, .it .i64])], []⟩, [⟨[(0, .gr 0), (1, .bo)], [.gs true (.int .i64)]⟩]⟩
def queue_walk_g (LP : LPT) : (((List (Int × Int × Int)) × Int) × Int × Int) → Option (Bool × List Int) := fun ((x1, x2), x3, x4) =>
  LP ((Int × Int) × ((List (Int × Int × Int)) × Int) × (Int × Int) × List Int) (Bool × List Int) (fun ((x5, x6), (x7, x8), (x9, x10), x11) =>
    bif !decide (x6 = (-1)) then 
        (bif !(decide (x6 < (0 : Int))) then 
            (bif !(decide ((x7.length : Int) ≤ x6)) then 
                (bif decide (0 ≤ x6) && decide (x6 < (x7.length : Int)) then 
                  (bif !(decide (((Ty.at (.pr (.int .i64) (.pr (.int .i64) (.int .i64))) x7 x6.toNat).1) < (0 : Int))) then 
                      (bif decide ((x11.length : Int) = (x7.length : Int)) then some (.inr (false, []))
                      else 
                        (bif decide ((x11.length + ([x6]).length) * 8 ≤ 140737488355328) then 
                          (bif decide (0 ≤ x6) && decide (x6 < (x7.length : Int)) then some (.inl ((x6, ((Ty.at (.pr (.int .i64) (.pr (.int .i64) (.int .i64))) x7 x6.toNat).2).2), (x7, x8), (x9, x10), x11 ++ ([x6])))
                            else none)
                          else none))
                  else some (.inr (false, [])))
                  else none)
            else some (.inr (false, [])))
        else some (.inr (false, [])))
    else some (.inr (decide (x5 = x10), x11)))
    (((-1), x3), (x1, x2), (x3, x4), [])
def queue_walk : (((List (Int × Int × Int)) × Int) × Int × Int) → Option (Bool × List Int) := queue_walk_g LOOPx
theorem queue_walk_ok : FnOK Go.Proofs.Try.prog fn_queue_walk sg_queue_walk queue_walk := fn_of (P := Go.Proofs.Try.prog) (f := fn_queue_walk) (sg := sg_queue_walk) (sgs := []) (Gd := fun LP gs => queue_walk_g LP) (hn := []) (h := [(8, false, ⟨[(2, .pt 0 0), (3, .pt 1 0), (4, .gr 2), (6, .it .i64), (7, .it .i64)], [.va [.vs 0 (.pr (.int .i64) (.pr (.int .i64) (.int .i64))), .it .i64], .va [.it .i64, .it .i64], .gs true (.int .i64)]⟩)]) (()) trivial (by kernel_rfl) (by kernel_rfl)

/-- queue.Right -/
abbrev fn_queue_Right : FuncId := 14
def sg_queue_Right : Sig := ⟨⟨[(0, .ag [.vs 0 (.pr (.int .i64) (.pr (.int .i64) (.int .i64))), .it .i64]), (1, .ag [.it .i64, .it .i64])], []⟩, [⟨[(0, .bo)], []⟩]⟩
def queue_Right_g (LP : LPT) (arena_Right : ((List (Int × Int × Int)) × Int) → Option (Bool)) (queue_walk : (((List (Int × Int × Int)) × Int) × Int × Int) → Option (Bool × List Int)) : (((List (Int × Int × Int)) × Int) × Int × Int) → Option (Bool) := fun ((x1, x2), x3, x4) =>
  (queue_walk ((x1, x2), x3, x4)).bind fun (x5, x6) => 
    (bif x5 then 
        ((arena_Right (x1, x2)).bind fun x7 => some x7)
    else some false)
def queue_Right : (((List (Int × Int × Int)) × Int) × Int × Int) → Option (Bool) := queue_Right_g LOOPx arena_Right queue_walk
theorem queue_Right_ok : FnOK Go.Proofs.Try.prog fn_queue_Right sg_queue_Right queue_Right := fn_of (P := Go.Proofs.Try.prog) (f := fn_queue_Right) (sg := sg_queue_Right) (sgs := [(fn_arena_Right, sg_arena_Right), (fn_queue_walk, sg_queue_walk)]) (Gd := fun LP gs => queue_Right_g LP gs.1 gs.2.1) (hn := []) (h := []) (arena_Right, queue_walk, ()) ⟨arena_Right_ok, queue_walk_ok, trivial⟩ (by kernel_rfl) (by kernel_rfl)

/-- queue.Places -/
abbrev fn_queue_Places : FuncId := 19
def sg_queue_Places : Sig := ⟨⟨[(0, .ag [.vs 0 (.pr (.int .i64) (.pr (.int .i64) (.int .i64))), .it .i64]), (1, .ag [.it .i64, .it .i64])], []⟩, [⟨[(0, .gr 0)], [.gs true (.int .i64)]⟩]⟩
def queue_Places_g (LP : LPT) (arena_Right : ((List (Int × Int × Int)) × Int) → Option (Bool)) (queue_walk : (((List (Int × Int × Int)) × Int) × Int × Int) → Option (Bool × List Int)) : (((List (Int × Int × Int)) × Int) × Int × Int) → Option (List Int) := fun ((x1, x2), x3, x4) =>
  (queue_walk ((x1, x2), x3, x4)).bind fun (x5, x6) => 
    (bif !(!x5) then 
        ((arena_Right (x1, x2)).bind fun x7 => 
          (bif !x7 then some ([])
          else some x6))
    else some ([]))
def queue_Places : (((List (Int × Int × Int)) × Int) × Int × Int) → Option (List Int) := queue_Places_g LOOPx arena_Right queue_walk
theorem queue_Places_ok : FnOK Go.Proofs.Try.prog fn_queue_Places sg_queue_Places queue_Places := fn_of (P := Go.Proofs.Try.prog) (f := fn_queue_Places) (sg := sg_queue_Places) (sgs := [(fn_arena_Right, sg_arena_Right), (fn_queue_walk, sg_queue_walk)]) (Gd := fun LP gs => queue_Places_g LP gs.1 gs.2.1) (hn := []) (h := []) (arena_Right, queue_walk, ()) ⟨arena_Right_ok, queue_walk_ok, trivial⟩ (by kernel_rfl) (by kernel_rfl)

/-- queue.Tasks -/
abbrev fn_queue_Tasks : FuncId := 17
def sg_queue_Tasks : Sig := ⟨⟨[(0, .ag [.vs 0 (.pr (.int .i64) (.pr (.int .i64) (.int .i64))), .it .i64]), (1, .ag [.it .i64, .it .i64])], []⟩, [⟨[(0, .gr 0)], [.gs true (.int .i64)]⟩]⟩
def queue_Tasks_g (LP : LPT) (queue_Places : (((List (Int × Int × Int)) × Int) × Int × Int) → Option (List Int)) : (((List (Int × Int × Int)) × Int) × Int × Int) → Option (List Int) := fun ((x1, x2), x3, x4) =>
  (queue_Places ((x1, x2), x3, x4)).bind fun x5 => 
    (LP ((Int × Int) × ((List (Int × Int × Int)) × Int) × List Int) (List Int) (fun ((x6, x7), (x8, x9), x10) =>
      bif decide (x7 < x6) then 
          (bif decide (0 ≤ x7) && decide (x7 < (x10.length : Int)) then 
            (bif decide (x7.toNat < x10.length) then 
              (bif decide (0 ≤ Ty.at (.int .i64) x10 x7.toNat) && decide (Ty.at (.int .i64) x10 x7.toNat < (x8.length : Int)) then 
                (bif decide (0 ≤ x7) && decide (x7 < (x10.length : Int)) then 
                  (bif decide (x7.toNat < x10.length) then some (.inl ((x6, IntKind.i64.wrap (x7 + (1 : Int))), (x8, x9), x10.set x7.toNat (((Ty.at (.pr (.int .i64) (.pr (.int .i64) (.int .i64))) x8 ((Ty.at (.int .i64) x10 x7.toNat).toNat)).2).1)))
                    else none)
                  else none)
                else none)
              else none)
            else none)
      else some (.inr x10))
      (((x5.length : Int), 0), (x1, x2), x5))
def queue_Tasks : (((List (Int × Int × Int)) × Int) × Int × Int) → Option (List Int) := queue_Tasks_g LOOPx queue_Places
theorem queue_Tasks_ok : FnOK Go.Proofs.Try.prog fn_queue_Tasks sg_queue_Tasks queue_Tasks := fn_of (P := Go.Proofs.Try.prog) (f := fn_queue_Tasks) (sg := sg_queue_Tasks) (sgs := [(fn_queue_Places, sg_queue_Places)]) (Gd := fun LP gs => queue_Tasks_g LP gs.1) (hn := []) (h := [(8, false, ⟨[(2, .pt 0 0), (5, .gr 1), (11, .gr 1), (12, .it .i64), (13, .it .i64)], [.va [.vs 0 (.pr (.int .i64) (.pr (.int .i64) (.int .i64))), .it .i64], .gs true (.int .i64)]⟩)]) (queue_Places, ()) ⟨queue_Places_ok, trivial⟩ (by kernel_rfl) (by kernel_rfl)

/-- queue.Push -/
abbrev fn_queue_Push : FuncId := 21
def sg_queue_Push : Sig := ⟨⟨[(0, .ag [.vs 0 (.pr (.int .i64) (.pr (.int .i64) (.int .i64))), .it .i64]), (1, .ag [.it .i64, .it .i64]), (2, .it .i64), (3, .it .i64), (4, .bo)], []⟩, [⟨[(0, .ag [.vs 0 (.pr (.int .i64) (.pr (.int .i64) (.int .i64))), .it .i64]), (1, .ag [.it .i64, .it .i64]), (2, .it .i64)], []⟩]⟩
def queue_Push_g (LP : LPT) (arena_Take : (((List (Int × Int × Int)) × Int) × Int × Int) → Option (((Int × Int × Int) × List (Int × Int × Int)) ⊕ (((List (Int × Int × Int)) × Int) × Int × Int))) (queue_Right : (((List (Int × Int × Int)) × Int) × Int × Int) → Option (Bool)) : (((List (Int × Int × Int)) × Int) × (Int × Int) × Int × Int × Bool) → Option (((List (Int × Int × Int)) × Int) × (Int × Int) × Int) := fun ((x1, x2), (x3, x4), x5, x6, x7) =>
  (queue_Right ((x1, x2), x3, x4)).bind fun x8 => 
    (bif !x8 then some ((x1, x2), (x3, x4), 1)
    else 
      ((arena_Take ((x1, x2), x5, x6)).bind fun x => match x with
        | .inl ((x9, x10, x11), x12) => bif !decide (x11 = (0 : Int)) then some ((x1, x2), (x3, x4), x11)
          else 
            (bif decide (x3 = (-1)) then some ((x12, x9), (x10, x10), 0)
            else 
              (bif x7 then 
                  (bif decide (0 ≤ x10) && decide (x10 < (x12.length : Int)) then 
                    (bif decide (x10.toNat < x12.length) then some ((x12.set x10.toNat ((Ty.at (.pr (.int .i64) (.pr (.int .i64) (.int .i64))) x12 x10.toNat).1, ((Ty.at (.pr (.int .i64) (.pr (.int .i64) (.int .i64))) x12 x10.toNat).2).1, x3), x9), (x10, x4), 0)
                      else none)
                    else none)
              else 
                (bif decide (0 ≤ x4) && decide (x4 < (x12.length : Int)) then 
                  (bif decide (x4.toNat < x12.length) then some ((x12.set x4.toNat ((Ty.at (.pr (.int .i64) (.pr (.int .i64) (.int .i64))) x12 x4.toNat).1, ((Ty.at (.pr (.int .i64) (.pr (.int .i64) (.int .i64))) x12 x4.toNat).2).1, x10), x9), (x3, x10), 0)
                    else none)
                  else none)))
        | .inr (((x13, x14), x15, x16)) => bif !decide (x16 = (0 : Int)) then some ((x1, x2), (x3, x4), x16)
          else 
            (bif decide (x3 = (-1)) then some ((x13, x14), (x15, x15), 0)
            else 
              (bif x7 then 
                  (bif decide (0 ≤ x15) && decide (x15 < (x13.length : Int)) then none
                    else none)
              else 
                (bif decide (0 ≤ x4) && decide (x4 < (x13.length : Int)) then none
                  else none)))))
def queue_Push : (((List (Int × Int × Int)) × Int) × (Int × Int) × Int × Int × Bool) → Option (((List (Int × Int × Int)) × Int) × (Int × Int) × Int) := queue_Push_g LOOPx arena_Take queue_Right
theorem queue_Push_ok : FnOK Go.Proofs.Try.prog fn_queue_Push sg_queue_Push queue_Push := fn_of (P := Go.Proofs.Try.prog) (f := fn_queue_Push) (sg := sg_queue_Push) (sgs := [(fn_arena_Take, sg_arena_Take), (fn_queue_Right, sg_queue_Right)]) (Gd := fun LP gs => queue_Push_g LP gs.1 gs.2.1) (hn := []) (h := []) (arena_Take, queue_Right, ()) ⟨arena_Take_ok, queue_Right_ok, trivial⟩ (by kernel_rfl) (by kernel_rfl)

/-- queue.out -/
abbrev fn_queue_out : FuncId := 26
def sg_queue_out : Sig := ⟨⟨[(0, .ag [.vs 0 (.pr (.int .i64) (.pr (.int .i64) (.int .i64))), .it .i64]), (1, .ag [.it .i64, .it .i64]), (2, .vs 0 (.int .i64)), (3, .it .i64)], []⟩, [⟨[(0, .ag [.vs 0 (.pr (.int .i64) (.pr (.int .i64) (.int .i64))), .it .i64]), (1, .ag [.it .i64, .it .i64]), (2, .it .i64)], []⟩]⟩
def queue_out_g (LP : LPT) (Clone_Rec : (List (Int × Int × Int)) → Option (List (Int × Int × Int))) (arena_Give : (((List (Int × Int × Int)) × Int) × Int) → Option (((List (Int × Int × Int)) × Int) × Int)) : (((List (Int × Int × Int)) × Int) × (Int × Int) × (List Int) × Int) → Option (((List (Int × Int × Int)) × Int) × (Int × Int) × Int) := fun ((x1, x2), (x3, x4), x5, x6) =>
  (Clone_Rec x1).bind fun x7 => 
    (bif decide (0 ≤ x6) && decide (x6 < (x5.length : Int)) then 
      (bif decide (0 ≤ Ty.at (.int .i64) x5 x6.toNat) && decide (Ty.at (.int .i64) x5 x6.toNat < (x1.length : Int)) then 
        (Option.bind (α := (((List Int) × Int × Int) × ((List (Int × Int × Int)) × Int) × (Int × Int) × Int × (Int × Int) × Int × (Int × Int) × List (Int × Int × Int)) ⊕ (((List (Int × Int × Int)) × Int) × (Int × Int) × Int)) (β := ((List (Int × Int × Int)) × Int) × (Int × Int) × Int) (bif decide ((((Ty.at (.pr (.int .i64) (.pr (.int .i64) (.int .i64))) x1 ((Ty.at (.int .i64) x5 x6.toNat).toNat)).2).2) = (-1)) then 
              (bif decide ((0 : Int) < x6) then 
                  (bif decide (0 ≤ IntKind.i64.wrap (x6 - (1 : Int))) && decide (IntKind.i64.wrap (x6 - (1 : Int)) < (x5.length : Int)) then some (.inl ((x5, x6, ((Ty.at (.pr (.int .i64) (.pr (.int .i64) (.int .i64))) x1 ((Ty.at (.int .i64) x5 x6.toNat).toNat)).2).2), (x1, x2), (x3, x4), 0, (0, 0), x2, (x3, Ty.at (.int .i64) x5 ((IntKind.i64.wrap (x6 - (1 : Int))).toNat)), x7))
                    else none)
              else some (.inl ((x5, x6, ((Ty.at (.pr (.int .i64) (.pr (.int .i64) (.int .i64))) x1 ((Ty.at (.int .i64) x5 x6.toNat).toNat)).2).2), (x1, x2), (x3, x4), 0, (0, 0), x2, (x3, (-1)), x7)))
          else some (.inl ((x5, x6, ((Ty.at (.pr (.int .i64) (.pr (.int .i64) (.int .i64))) x1 ((Ty.at (.int .i64) x5 x6.toNat).toNat)).2).2), (x1, x2), (x3, x4), 0, (0, 0), x2, (x3, x4), x7)))
          fun z => match z with
          | .inl ((x8, x9, x10), (x11, x12), (x13, x14), x15, (x16, x17), x18, (x19, x20), x21) => Option.bind (α := (((List Int) × Int) × ((List (Int × Int × Int)) × Int) × (Int × Int) × Int × (Int × Int) × Int × (Int × Int) × List (Int × Int × Int)) ⊕ (((List (Int × Int × Int)) × Int) × (Int × Int) × Int)) (β := ((List (Int × Int × Int)) × Int) × (Int × Int) × Int) (bif decide (x9 = (0 : Int)) then some (.inl ((x8, x9), (x11, x12), (x13, x14), x15, (x16, x17), x18, (x10, x20), x21))
              else 
                (bif decide (0 ≤ IntKind.i64.wrap (x9 - (1 : Int))) && decide (IntKind.i64.wrap (x9 - (1 : Int)) < (x8.length : Int)) then 
                  (bif decide (0 ≤ Ty.at (.int .i64) x8 ((IntKind.i64.wrap (x9 - (1 : Int))).toNat)) && decide (Ty.at (.int .i64) x8 ((IntKind.i64.wrap (x9 - (1 : Int))).toNat) < (x21.length : Int)) then 
                    (bif decide ((Ty.at (.int .i64) x8 ((IntKind.i64.wrap (x9 - (1 : Int))).toNat)).toNat < x21.length) then some (.inl ((x8, x9), (x11, x12), (x13, x14), x15, (x16, x17), x18, (x19, x20), x21.set ((Ty.at (.int .i64) x8 ((IntKind.i64.wrap (x9 - (1 : Int))).toNat)).toNat) ((Ty.at (.pr (.int .i64) (.pr (.int .i64) (.int .i64))) x21 ((Ty.at (.int .i64) x8 ((IntKind.i64.wrap (x9 - (1 : Int))).toNat)).toNat)).1, ((Ty.at (.pr (.int .i64) (.pr (.int .i64) (.int .i64))) x21 ((Ty.at (.int .i64) x8 ((IntKind.i64.wrap (x9 - (1 : Int))).toNat)).toNat)).2).1, x10)))
                      else none)
                    else none)
                  else none))
              fun z => match z with
              | .inl ((x22, x23), (x24, x25), (x26, x27), x28, (x29, x30), x31, (x32, x33), x34) => bif decide (0 ≤ x23) && decide (x23 < (x22.length : Int)) then 
                  ((arena_Give ((x34, x31), Ty.at (.int .i64) x22 x23.toNat)).bind fun ((x35, x36), x37) => 
                    (bif !decide (x37 = (0 : Int)) then some ((x24, x25), (x26, x27), x37)
                    else some ((x35, x36), (x32, x33), 0)))
                  else none
              | .inr o => some o
          | .inr o => some o)
        else none)
      else none)
def queue_out : (((List (Int × Int × Int)) × Int) × (Int × Int) × (List Int) × Int) → Option (((List (Int × Int × Int)) × Int) × (Int × Int) × Int) := queue_out_g LOOPx Clone_Rec arena_Give
theorem queue_out_ok : FnOK Go.Proofs.Try.prog fn_queue_out sg_queue_out queue_out := fn_of (P := Go.Proofs.Try.prog) (f := fn_queue_out) (sg := sg_queue_out) (sgs := [(fn_Clone_Rec, sg_Clone_Rec), (fn_arena_Give, sg_arena_Give)]) (Gd := fun LP gs => queue_out_g LP gs.1 gs.2.1) (hn := []) (h := [(9, true, ⟨[(2, .vs 0 (.int .i64)), (3, .it .i64), (4, .pt 0 0), (5, .pt 1 0), (8, .pt 2 0), (9, .pt 3 0), (11, .pt 4 0), (12, .pt 5 0), (13, .it .i64)], [.va [.vs 0 (.pr (.int .i64) (.pr (.int .i64) (.int .i64))), .it .i64], .va [.it .i64, .it .i64], .va [.sn, .it .i64], .va [.it .i64, .it .i64], .va [.gr 6, .it .i64], .va [.it .i64, .it .i64], .gs true (.pr (.int .i64) (.pr (.int .i64) (.int .i64)))]⟩), (21, true, ⟨[(2, .vs 0 (.int .i64)), (3, .it .i64), (4, .pt 0 0), (5, .pt 1 0), (8, .pt 2 0), (9, .pt 3 0), (11, .pt 4 0), (12, .pt 5 0)], [.va [.vs 0 (.pr (.int .i64) (.pr (.int .i64) (.int .i64))), .it .i64], .va [.it .i64, .it .i64], .va [.sn, .it .i64], .va [.it .i64, .it .i64], .va [.gr 6, .it .i64], .va [.it .i64, .it .i64], .gs true (.pr (.int .i64) (.pr (.int .i64) (.int .i64)))]⟩)]) (Clone_Rec, arena_Give, ()) ⟨Clone_Rec_ok, arena_Give_ok, trivial⟩ (by kernel_rfl) (by kernel_rfl)

/-- queue.Pop -/
abbrev fn_queue_Pop : FuncId := 9
def sg_queue_Pop : Sig := ⟨⟨[(0, .ag [.vs 0 (.pr (.int .i64) (.pr (.int .i64) (.int .i64))), .it .i64]), (1, .ag [.it .i64, .it .i64])], []⟩, [⟨[(0, .ag [.vs 0 (.pr (.int .i64) (.pr (.int .i64) (.int .i64))), .it .i64]), (1, .ag [.it .i64, .it .i64]), (2, .it .i64), (3, .it .i64)], []⟩]⟩
def queue_Pop_g (LP : LPT) (queue_Right : (((List (Int × Int × Int)) × Int) × Int × Int) → Option (Bool)) (queue_Places : (((List (Int × Int × Int)) × Int) × Int × Int) → Option (List Int)) (queue_out : (((List (Int × Int × Int)) × Int) × (Int × Int) × (List Int) × Int) → Option (((List (Int × Int × Int)) × Int) × (Int × Int) × Int)) : (((List (Int × Int × Int)) × Int) × Int × Int) → Option (((List (Int × Int × Int)) × Int) × (Int × Int) × Int × Int) := fun ((x1, x2), x3, x4) =>
  (queue_Right ((x1, x2), x3, x4)).bind fun x5 => 
    (bif !x5 then some ((x1, x2), (x3, x4), 0, 1)
    else 
      ((queue_Places ((x1, x2), x3, x4)).bind fun x6 => 
        (bif decide ((x6.length : Int) = (0 : Int)) then some ((x1, x2), (x3, x4), 0, 7)
        else 
          ((queue_out ((x1, x2), (x3, x4), x6, 0)).bind fun ((x7, x8), (x9, x10), x11) => 
            (bif !decide (x11 = (0 : Int)) then some ((x1, x2), (x3, x4), 0, x11)
            else 
              (bif decide (0 ≤ 0) && decide (0 < (x6.length : Int)) then 
                (bif decide ((0 : Int).toNat < x6.length) then 
                  (bif decide (0 ≤ Ty.at (.int .i64) x6 ((0 : Int).toNat)) && decide (Ty.at (.int .i64) x6 ((0 : Int).toNat) < (x1.length : Int)) then some ((x7, x8), (x9, x10), ((Ty.at (.pr (.int .i64) (.pr (.int .i64) (.int .i64))) x1 ((Ty.at (.int .i64) x6 ((0 : Int).toNat)).toNat)).2).1, 0)
                    else none)
                  else none)
                else none))))))
def queue_Pop : (((List (Int × Int × Int)) × Int) × Int × Int) → Option (((List (Int × Int × Int)) × Int) × (Int × Int) × Int × Int) := queue_Pop_g LOOPx queue_Right queue_Places queue_out
theorem queue_Pop_ok : FnOK Go.Proofs.Try.prog fn_queue_Pop sg_queue_Pop queue_Pop := fn_of (P := Go.Proofs.Try.prog) (f := fn_queue_Pop) (sg := sg_queue_Pop) (sgs := [(fn_queue_Right, sg_queue_Right), (fn_queue_Places, sg_queue_Places), (fn_queue_out, sg_queue_out)]) (Gd := fun LP gs => queue_Pop_g LP gs.1 gs.2.1 gs.2.2.1) (hn := []) (h := []) (queue_Right, queue_Places, queue_out, ()) ⟨queue_Right_ok, queue_Places_ok, queue_out_ok, trivial⟩ (by kernel_rfl) (by kernel_rfl)

/-- queue.Drop -/
abbrev fn_queue_Drop : FuncId := 11
def sg_queue_Drop : Sig := ⟨⟨[(0, .ag [.vs 0 (.pr (.int .i64) (.pr (.int .i64) (.int .i64))), .it .i64]), (1, .ag [.it .i64, .it .i64]), (2, .it .i64)], []⟩, [⟨[(0, .ag [.vs 0 (.pr (.int .i64) (.pr (.int .i64) (.int .i64))), .it .i64]), (1, .ag [.it .i64, .it .i64]), (2, .it .i64)], []⟩]⟩
def queue_Drop_g (LP : LPT) (Index_int : ((List Int) × Int) → Option (Int)) (queue_Right : (((List (Int × Int × Int)) × Int) × Int × Int) → Option (Bool)) (queue_Places : (((List (Int × Int × Int)) × Int) × Int × Int) → Option (List Int)) (queue_Tasks : (((List (Int × Int × Int)) × Int) × Int × Int) → Option (List Int)) (queue_out : (((List (Int × Int × Int)) × Int) × (Int × Int) × (List Int) × Int) → Option (((List (Int × Int × Int)) × Int) × (Int × Int) × Int)) : (((List (Int × Int × Int)) × Int) × (Int × Int) × Int) → Option (((List (Int × Int × Int)) × Int) × (Int × Int) × Int) := fun ((x1, x2), (x3, x4), x5) =>
  (queue_Right ((x1, x2), x3, x4)).bind fun x6 => 
    (bif !x6 then some ((x1, x2), (x3, x4), 1)
    else 
      ((queue_Tasks ((x1, x2), x3, x4)).bind fun x7 => 
        ((Index_int (x7, x5)).bind fun x8 => 
          (bif decide (x8 < (0 : Int)) then some ((x1, x2), (x3, x4), 7)
          else 
            ((queue_Places ((x1, x2), x3, x4)).bind fun x9 => 
              ((queue_out ((x1, x2), (x3, x4), x9, x8)).bind fun ((x10, x11), (x12, x13), x14) => some ((x10, x11), (x12, x13), x14)))))))
def queue_Drop : (((List (Int × Int × Int)) × Int) × (Int × Int) × Int) → Option (((List (Int × Int × Int)) × Int) × (Int × Int) × Int) := queue_Drop_g LOOPx Index_int queue_Right queue_Places queue_Tasks queue_out
theorem queue_Drop_ok : FnOK Go.Proofs.Try.prog fn_queue_Drop sg_queue_Drop queue_Drop := fn_of (P := Go.Proofs.Try.prog) (f := fn_queue_Drop) (sg := sg_queue_Drop) (sgs := [(fn_Index_int, sg_Index_int), (fn_queue_Right, sg_queue_Right), (fn_queue_Places, sg_queue_Places), (fn_queue_Tasks, sg_queue_Tasks), (fn_queue_out, sg_queue_out)]) (Gd := fun LP gs => queue_Drop_g LP gs.1 gs.2.1 gs.2.2.1 gs.2.2.2.1 gs.2.2.2.2.1) (hn := []) (h := []) (Index_int, queue_Right, queue_Places, queue_Tasks, queue_out, ()) ⟨Index_int_ok, queue_Right_ok, queue_Places_ok, queue_Tasks_ok, queue_out_ok, trivial⟩ (by kernel_rfl) (by kernel_rfl)

/-- torporref08.places -/
abbrev fn_torporref08_places : FuncId := 31
def sg_torporref08_places : Sig := ⟨⟨[(0, .ag [.vs 0 (.pr (.int .i64) (.pr (.int .i64) (.int .i64))), .it .i64]), (1, .ag [.it .i64, .it .i64])], []⟩, [⟨[(0, .gr 0), (1, .bo)], [.gs true (.int .i64)]⟩]⟩
def torporref08_places_g (LP : LPT) (torporref07_Has : ((List Int) × Int) → Option (Bool)) (torporref07_Right : ((List (Int × Int × Int)) × Int) → Option (Bool)) (torporref07_Live : (((List (Int × Int × Int)) × Int) × Int) → Option (Bool)) : (((List (Int × Int × Int)) × Int) × Int × Int) → Option (Bool × List Int) := fun ((x1, x2), x3, x4) =>
  (torporref07_Right (x1, x2)).bind fun x5 => 
    (bif !x5 then some (false, [])
    else 
      (LP ((Int × Int) × ((List (Int × Int × Int)) × Int) × (Int × Int) × List Int) (Bool × List Int) (fun ((x6, x7), (x8, x9), (x10, x11), x12) =>
        bif !decide (x6 = (-1)) then 
            ((torporref07_Live ((x8, x9), x6)).bind fun x13 => 
              (bif !(!x13) then 
                  ((torporref07_Has (x12, x6)).bind fun x14 => 
                    (bif x14 then some (.inr (false, []))
                    else 
                      (bif decide ((x12.length + ([x6]).length) * 8 ≤ 140737488355328) then 
                        (bif decide (0 ≤ x6) && decide (x6 < (x8.length : Int)) then some (.inl ((((Ty.at (.pr (.int .i64) (.pr (.int .i64) (.int .i64))) x8 x6.toNat).2).2, x6), (x8, x9), (x10, x11), x12 ++ ([x6])))
                          else none)
                        else none)))
              else some (.inr (false, []))))
        else some (.inr (decide (x7 = x11), x12)))
        ((x3, (-1)), (x1, x2), (x3, x4), [])))
def torporref08_places : (((List (Int × Int × Int)) × Int) × Int × Int) → Option (Bool × List Int) := torporref08_places_g LOOPx torporref07_Has torporref07_Right torporref07_Live
theorem torporref08_places_ok : FnOK Go.Proofs.Try.prog fn_torporref08_places sg_torporref08_places torporref08_places := fn_of (P := Go.Proofs.Try.prog) (f := fn_torporref08_places) (sg := sg_torporref08_places) (sgs := [(fn_torporref07_Has, sg_torporref07_Has), (fn_torporref07_Right, sg_torporref07_Right), (fn_torporref07_Live, sg_torporref07_Live)]) (Gd := fun LP gs => torporref08_places_g LP gs.1 gs.2.1 gs.2.2.1) (hn := []) (h := [(16, false, ⟨[(2, .pt 0 0), (3, .pt 1 0), (6, .gr 2), (7, .it .i64), (8, .it .i64)], [.va [.vs 0 (.pr (.int .i64) (.pr (.int .i64) (.int .i64))), .it .i64], .va [.it .i64, .it .i64], .gs true (.int .i64)]⟩)]) (torporref07_Has, torporref07_Right, torporref07_Live, ()) ⟨torporref07_Has_ok, torporref07_Right_ok, torporref07_Live_ok, trivial⟩ (by kernel_rfl) (by kernel_rfl)

/-- torporref08.Right -/
abbrev fn_torporref08_Right : FuncId := 15
def sg_torporref08_Right : Sig := ⟨⟨[(0, .ag [.vs 0 (.pr (.int .i64) (.pr (.int .i64) (.int .i64))), .it .i64]), (1, .ag [.it .i64, .it .i64])], []⟩, [⟨[(0, .bo)], []⟩]⟩
def torporref08_Right_g (LP : LPT) (torporref08_places : (((List (Int × Int × Int)) × Int) × Int × Int) → Option (Bool × List Int)) : (((List (Int × Int × Int)) × Int) × Int × Int) → Option (Bool) := fun ((x1, x2), x3, x4) =>
  (torporref08_places ((x1, x2), x3, x4)).bind fun (x5, x6) => some x5
def torporref08_Right : (((List (Int × Int × Int)) × Int) × Int × Int) → Option (Bool) := torporref08_Right_g LOOPx torporref08_places
theorem torporref08_Right_ok : FnOK Go.Proofs.Try.prog fn_torporref08_Right sg_torporref08_Right torporref08_Right := fn_of (P := Go.Proofs.Try.prog) (f := fn_torporref08_Right) (sg := sg_torporref08_Right) (sgs := [(fn_torporref08_places, sg_torporref08_places)]) (Gd := fun LP gs => torporref08_Right_g LP gs.1) (hn := []) (h := []) (torporref08_places, ()) ⟨torporref08_places_ok, trivial⟩ (by kernel_rfl) (by kernel_rfl)

/-- torporref08.Places -/
abbrev fn_torporref08_Places : FuncId := 20
def sg_torporref08_Places : Sig := ⟨⟨[(0, .ag [.vs 0 (.pr (.int .i64) (.pr (.int .i64) (.int .i64))), .it .i64]), (1, .ag [.it .i64, .it .i64])], []⟩, [⟨[(0, .gr 0)], [.gs true (.int .i64)]⟩]⟩
def torporref08_Places_g (LP : LPT) (torporref08_places : (((List (Int × Int × Int)) × Int) × Int × Int) → Option (Bool × List Int)) : (((List (Int × Int × Int)) × Int) × Int × Int) → Option (List Int) := fun ((x1, x2), x3, x4) =>
  (torporref08_places ((x1, x2), x3, x4)).bind fun (x5, x6) => 
    (bif !x5 then some ([])
    else some x6)
def torporref08_Places : (((List (Int × Int × Int)) × Int) × Int × Int) → Option (List Int) := torporref08_Places_g LOOPx torporref08_places
theorem torporref08_Places_ok : FnOK Go.Proofs.Try.prog fn_torporref08_Places sg_torporref08_Places torporref08_Places := fn_of (P := Go.Proofs.Try.prog) (f := fn_torporref08_Places) (sg := sg_torporref08_Places) (sgs := [(fn_torporref08_places, sg_torporref08_places)]) (Gd := fun LP gs => torporref08_Places_g LP gs.1) (hn := []) (h := []) (torporref08_places, ()) ⟨torporref08_places_ok, trivial⟩ (by kernel_rfl) (by kernel_rfl)

/-- torporref08.Tasks -/
abbrev fn_torporref08_Tasks : FuncId := 18
def sg_torporref08_Tasks : Sig := ⟨⟨[(0, .ag [.vs 0 (.pr (.int .i64) (.pr (.int .i64) (.int .i64))), .it .i64]), (1, .ag [.it .i64, .it .i64])], []⟩, [⟨[(0, .gr 0)], [.gs true (.int .i64)]⟩]⟩
def torporref08_Tasks_g (LP : LPT) (torporref08_Places : (((List (Int × Int × Int)) × Int) × Int × Int) → Option (List Int)) : (((List (Int × Int × Int)) × Int) × Int × Int) → Option (List Int) := fun ((x1, x2), x3, x4) =>
  (torporref08_Places ((x1, x2), x3, x4)).bind fun x5 => 
    (LP (Int × ((List (Int × Int × Int)) × Int) × (List Int) × List Int) (List Int) (fun (x6, (x7, x8), x9, x10) =>
      bif decide (x6 < (x10.length : Int)) then 
          (bif decide (0 ≤ x6) && decide (x6 < (x10.length : Int)) then 
            (bif decide (x6.toNat < x10.length) then 
              (bif decide (0 ≤ Ty.at (.int .i64) x10 x6.toNat) && decide (Ty.at (.int .i64) x10 x6.toNat < (x7.length : Int)) then 
                (bif decide ((x9.length + ([((Ty.at (.pr (.int .i64) (.pr (.int .i64) (.int .i64))) x7 ((Ty.at (.int .i64) x10 x6.toNat).toNat)).2).1]).length) * 8 ≤ 140737488355328) then some (.inl (IntKind.i64.wrap (x6 + (1 : Int)), (x7, x8), x9 ++ ([((Ty.at (.pr (.int .i64) (.pr (.int .i64) (.int .i64))) x7 ((Ty.at (.int .i64) x10 x6.toNat).toNat)).2).1]), x10))
                  else none)
                else none)
              else none)
            else none)
      else some (.inr x9))
      (0, (x1, x2), [], x5))
def torporref08_Tasks : (((List (Int × Int × Int)) × Int) × Int × Int) → Option (List Int) := torporref08_Tasks_g LOOPx torporref08_Places
theorem torporref08_Tasks_ok : FnOK Go.Proofs.Try.prog fn_torporref08_Tasks sg_torporref08_Tasks torporref08_Tasks := fn_of (P := Go.Proofs.Try.prog) (f := fn_torporref08_Tasks) (sg := sg_torporref08_Tasks) (sgs := [(fn_torporref08_Places, sg_torporref08_Places)]) (Gd := fun LP gs => torporref08_Tasks_g LP gs.1) (hn := []) (h := [(10, false, ⟨[(2, .pt 0 0), (5, .gr 1), (6, .gr 2), (7, .it .i64)], [.va [.vs 0 (.pr (.int .i64) (.pr (.int .i64) (.int .i64))), .it .i64], .gs true (.int .i64), .gs true (.int .i64)]⟩)]) (torporref08_Places, ()) ⟨torporref08_Places_ok, trivial⟩ (by kernel_rfl) (by kernel_rfl)

/-- torporref08.Laid -/
abbrev fn_torporref08_Laid : FuncId := 34
def sg_torporref08_Laid : Sig := ⟨⟨[(0, .ag [.vs 0 (.pr (.int .i64) (.pr (.int .i64) (.int .i64))), .it .i64]), (1, .vs 0 (.int .i64))], []⟩, [⟨[(0, .ag [.gr 0, .it .i64]), (1, .ag [.it .i64, .it .i64])], [.gs true (.pr (.int .i64) (.pr (.int .i64) (.int .i64)))]⟩]⟩
def torporref08_Laid_g (LP : LPT) (torporref07_Copy : ((List (Int × Int × Int)) × Int) → Option (Int × List (Int × Int × Int))) : (((List (Int × Int × Int)) × Int) × List Int) → Option ((Int × Int × Int) × List (Int × Int × Int)) := fun ((x1, x2), x3) =>
  (torporref07_Copy (x1, x2)).bind fun (x4, x5) => 
    (bif decide ((x3.length : Int) = (0 : Int)) then some ((x4, (-1), (-1)), x5)
    else 
      (Option.bind (α := ((List Int) × Int × (Int × Int) × Int × List (Int × Int × Int)) ⊕ ((Int × Int × Int) × List (Int × Int × Int))) (β := (Int × Int × Int) × List (Int × Int × Int)) (LP (((List Int) × Int) × Int × (Int × Int) × Int × List (Int × Int × Int)) (((List Int) × Int × (Int × Int) × Int × List (Int × Int × Int)) ⊕ ((Int × Int × Int) × List (Int × Int × Int))) (fun ((x6, x7), x8, (x9, x10), x11, x12) =>
          bif decide (x7 < (x6.length : Int)) then 
              (Option.bind (α := (((List Int) × Int × Int) × Int × (Int × Int) × Int × List (Int × Int × Int)) ⊕ ((((List Int) × Int) × Int × (Int × Int) × Int × List (Int × Int × Int)) ⊕ (((List Int) × Int × (Int × Int) × Int × List (Int × Int × Int)) ⊕ ((Int × Int × Int) × List (Int × Int × Int))))) (β := (((List Int) × Int) × Int × (Int × Int) × Int × List (Int × Int × Int)) ⊕ (((List Int) × Int × (Int × Int) × Int × List (Int × Int × Int)) ⊕ ((Int × Int × Int) × List (Int × Int × Int)))) (bif decide ((IntKind.i64.wrap (x7 + (1 : Int))) < (x6.length : Int)) then 
                    (bif decide (0 ≤ IntKind.i64.wrap (x7 + (1 : Int))) && decide (IntKind.i64.wrap (x7 + (1 : Int)) < (x6.length : Int)) then some (.inl ((x6, x7, Ty.at (.int .i64) x6 ((IntKind.i64.wrap (x7 + (1 : Int))).toNat)), x8, (x9, x10), x11, x12))
                      else none)
                else some (.inl ((x6, x7, (-1)), x8, (x9, x10), x11, x12)))
                fun z => match z with
                | .inl ((x13, x14, x15), x16, (x17, x18), x19, x20) => bif decide (0 ≤ x14) && decide (x14 < (x13.length : Int)) then 
                    (bif decide (0 ≤ Ty.at (.int .i64) x13 x14.toNat) && decide (Ty.at (.int .i64) x13 x14.toNat < (x20.length : Int)) then 
                      (bif decide ((Ty.at (.int .i64) x13 x14.toNat).toNat < x20.length) then some (.inl ((x13, IntKind.i64.wrap (x14 + (1 : Int))), x16, (x17, x18), x19, x20.set ((Ty.at (.int .i64) x13 x14.toNat).toNat) ((Ty.at (.pr (.int .i64) (.pr (.int .i64) (.int .i64))) x20 ((Ty.at (.int .i64) x13 x14.toNat).toNat)).1, ((Ty.at (.pr (.int .i64) (.pr (.int .i64) (.int .i64))) x20 ((Ty.at (.int .i64) x13 x14.toNat).toNat)).2).1, x15)))
                        else none)
                      else none)
                    else none
                | .inr o => some o)
          else some (.inr (.inl (x6, x8, (x9, x10), x11, x12))))
          ((x3, 0), 0, (0, 0), x4, x5))
        fun z => match z with
        | .inl (x21, x22, (x23, x24), x25, x26) => bif decide (0 ≤ 0) && decide (0 < (x21.length : Int)) then 
            (bif decide (0 ≤ IntKind.i64.wrap ((x21.length : Int) - (1 : Int))) && decide (IntKind.i64.wrap ((x21.length : Int) - (1 : Int)) < (x21.length : Int)) then some ((x25, Ty.at (.int .i64) x21 ((0 : Int).toNat), Ty.at (.int .i64) x21 ((IntKind.i64.wrap ((x21.length : Int) - (1 : Int))).toNat)), x26)
              else none)
            else none
        | .inr o => some o))
def torporref08_Laid : (((List (Int × Int × Int)) × Int) × List Int) → Option ((Int × Int × Int) × List (Int × Int × Int)) := torporref08_Laid_g LOOPx torporref07_Copy
theorem torporref08_Laid_ok : FnOK Go.Proofs.Try.prog fn_torporref08_Laid sg_torporref08_Laid torporref08_Laid := fn_of (P := Go.Proofs.Try.prog) (f := fn_torporref08_Laid) (sg := sg_torporref08_Laid) (sgs := [(fn_torporref07_Copy, sg_torporref07_Copy)]) (Gd := fun LP gs => torporref08_Laid_g LP gs.1) (hn := []) (h := [(13, true, ⟨[(1, .vs 0 (.int .i64)), (4, .pt 0 0), (5, .pt 1 0), (6, .pt 2 0)], [.va [.sn, .it .i64], .va [.it .i64, .it .i64], .va [.gr 3, .it .i64], .gs true (.pr (.int .i64) (.pr (.int .i64) (.int .i64)))]⟩), (16, false, ⟨[(1, .vs 0 (.int .i64)), (4, .pt 0 0), (5, .pt 1 0), (6, .pt 2 0), (7, .it .i64)], [.va [.sn, .it .i64], .va [.it .i64, .it .i64], .va [.gr 3, .it .i64], .gs true (.pr (.int .i64) (.pr (.int .i64) (.int .i64)))]⟩), (28, true, ⟨[(1, .vs 0 (.int .i64)), (4, .pt 0 0), (5, .pt 1 0), (6, .pt 2 0), (7, .it .i64), (8, .it .i64)], [.va [.sn, .it .i64], .va [.it .i64, .it .i64], .va [.gr 3, .it .i64], .gs true (.pr (.int .i64) (.pr (.int .i64) (.int .i64)))]⟩)]) (torporref07_Copy, ()) ⟨torporref07_Copy_ok, trivial⟩ (by kernel_rfl) (by kernel_rfl)

/-- torporref08.Push -/
abbrev fn_torporref08_Push : FuncId := 22
def sg_torporref08_Push : Sig := ⟨⟨[(0, .ag [.vs 0 (.pr (.int .i64) (.pr (.int .i64) (.int .i64))), .it .i64]), (1, .ag [.it .i64, .it .i64]), (2, .it .i64), (3, .it .i64), (4, .bo)], []⟩, [⟨[(0, .ag [.vs 0 (.pr (.int .i64) (.pr (.int .i64) (.int .i64))), .it .i64]), (1, .ag [.it .i64, .it .i64]), (2, .it .i64)], []⟩]⟩
def torporref08_Push_g (LP : LPT) (torporref07_Take : (((List (Int × Int × Int)) × Int) × Int × Int) → Option (((List (Int × Int × Int)) × Int) × Int × Int)) (torporref08_Right : (((List (Int × Int × Int)) × Int) × Int × Int) → Option (Bool)) (torporref08_Places : (((List (Int × Int × Int)) × Int) × Int × Int) → Option (List Int)) (torporref08_Laid : (((List (Int × Int × Int)) × Int) × List Int) → Option ((Int × Int × Int) × List (Int × Int × Int))) : (((List (Int × Int × Int)) × Int) × (Int × Int) × Int × Int × Bool) → Option (((List (Int × Int × Int)) × Int) × (Int × Int) × Int) := fun ((x1, x2), (x3, x4), x5, x6, x7) =>
  (torporref08_Right ((x1, x2), x3, x4)).bind fun x8 => 
    (bif !x8 then some ((x1, x2), (x3, x4), 1)
    else 
      ((torporref08_Places ((x1, x2), x3, x4)).bind fun x9 => 
        ((torporref07_Take ((x1, x2), x5, x6)).bind fun ((x10, x11), x12, x13) => 
          (bif !decide (x13 = (0 : Int)) then some ((x1, x2), (x3, x4), x13)
          else 
            (Option.bind (α := (Int × (Int × Int) × (List Int) × (List (Int × Int × Int)) × Int) ⊕ (((List (Int × Int × Int)) × Int) × (Int × Int) × Int)) (β := ((List (Int × Int × Int)) × Int) × (Int × Int) × Int) (bif x7 then 
                  (bif decide ((([x12]).length + x9.length) * 8 ≤ 140737488355328) then some (.inl (0, (0, 0), ([x12]) ++ x9, x10, x11))
                    else none)
              else 
                (bif decide ((x9.length + ([x12]).length) * 8 ≤ 140737488355328) then some (.inl (0, (0, 0), x9 ++ ([x12]), x10, x11))
                  else none))
              fun z => match z with
              | .inl (x14, (x15, x16), x17, x18, x19) => (torporref08_Laid ((x18, x19), x17)).bind fun ((x20, x21, x22), x23) => some ((x23, x20), (x21, x22), 0)
              | .inr o => some o)))))
def torporref08_Push : (((List (Int × Int × Int)) × Int) × (Int × Int) × Int × Int × Bool) → Option (((List (Int × Int × Int)) × Int) × (Int × Int) × Int) := torporref08_Push_g LOOPx torporref07_Take torporref08_Right torporref08_Places torporref08_Laid
theorem torporref08_Push_ok : FnOK Go.Proofs.Try.prog fn_torporref08_Push sg_torporref08_Push torporref08_Push := fn_of (P := Go.Proofs.Try.prog) (f := fn_torporref08_Push) (sg := sg_torporref08_Push) (sgs := [(fn_torporref07_Take, sg_torporref07_Take), (fn_torporref08_Right, sg_torporref08_Right), (fn_torporref08_Places, sg_torporref08_Places), (fn_torporref08_Laid, sg_torporref08_Laid)]) (Gd := fun LP gs => torporref08_Push_g LP gs.1 gs.2.1 gs.2.2.1 gs.2.2.2.1) (hn := []) (h := [(23, true, ⟨[(10, .pt 0 0), (11, .pt 1 0), (13, .gr 2), (14, .pt 3 0)], [.va [.sn, .it .i64], .va [.it .i64, .it .i64], .gs true (.int .i64), .va [.vs 0 (.pr (.int .i64) (.pr (.int .i64) (.int .i64))), .it .i64]]⟩)]) (torporref07_Take, torporref08_Right, torporref08_Places, torporref08_Laid, ()) ⟨torporref07_Take_ok, torporref08_Right_ok, torporref08_Places_ok, torporref08_Laid_ok, trivial⟩ (by kernel_rfl) (by kernel_rfl)

/-- torporref08.without -/
abbrev fn_torporref08_without : FuncId := 27
def sg_torporref08_without : Sig := ⟨⟨[(0, .ag [.vs 0 (.pr (.int .i64) (.pr (.int .i64) (.int .i64))), .it .i64]), (1, .ag [.it .i64, .it .i64]), (2, .it .i64)], []⟩, [⟨[(0, .ag [.vs 0 (.pr (.int .i64) (.pr (.int .i64) (.int .i64))), .it .i64]), (1, .ag [.it .i64, .it .i64]), (2, .it .i64)], []⟩]⟩
def torporref08_without_g (LP : LPT) (torporref07_Give : (((List (Int × Int × Int)) × Int) × Int) → Option (((List (Int × Int × Int)) × Int) × Int)) (torporref08_Places : (((List (Int × Int × Int)) × Int) × Int × Int) → Option (List Int)) (torporref08_Laid : (((List (Int × Int × Int)) × Int) × List Int) → Option ((Int × Int × Int) × List (Int × Int × Int))) : (((List (Int × Int × Int)) × Int) × (Int × Int) × Int) → Option (((List (Int × Int × Int)) × Int) × (Int × Int) × Int) := fun ((x1, x2), (x3, x4), x5) =>
  (torporref08_Places ((x1, x2), x3, x4)).bind fun x6 => 
    (bif (decide (0 ≤ x5) && decide (x5 ≤ (x6.length : Int))) && true then 
      (bif decide (0 ≤ IntKind.i64.wrap (x5 + (1 : Int))) && decide (IntKind.i64.wrap (x5 + (1 : Int)) ≤ (x6.length : Int)) then 
        (bif decide (0 + (x5.toNat - 0) ≤ x6.length) && decide ((([] : List Int).length + ((x6.drop 0).take (x5.toNat - 0)).length) * 8 ≤ 140737488355328) then 
          (bif decide (((IntKind.i64.wrap (x5 + (1 : Int))).toNat) + (x6.length - ((IntKind.i64.wrap (x5 + (1 : Int))).toNat)) ≤ x6.length) && decide (((([] : List Int) ++ ((x6.drop 0).take (x5.toNat - 0))).length + ((x6.drop ((IntKind.i64.wrap (x5 + (1 : Int))).toNat)).take (x6.length - ((IntKind.i64.wrap (x5 + (1 : Int))).toNat))).length) * 8 ≤ 140737488355328) then 
            ((torporref08_Laid ((x1, x2), (([] : List Int) ++ ((x6.drop 0).take (x5.toNat - 0))) ++ ((x6.drop ((IntKind.i64.wrap (x5 + (1 : Int))).toNat)).take (x6.length - ((IntKind.i64.wrap (x5 + (1 : Int))).toNat))))).bind fun ((x7, x8, x9), x10) => 
              (bif decide (0 ≤ x5) && decide (x5 < (x6.length : Int)) then 
                (bif decide (x5.toNat < x6.length) then 
                  ((torporref07_Give ((x10, x7), Ty.at (.int .i64) x6 x5.toNat)).bind fun ((x11, x12), x13) => 
                    (bif !decide (x13 = (0 : Int)) then some ((x1, x2), (x3, x4), x13)
                    else some ((x11, x12), (x8, x9), 0)))
                  else none)
                else none))
            else none)
          else none)
        else none)
      else none)
def torporref08_without : (((List (Int × Int × Int)) × Int) × (Int × Int) × Int) → Option (((List (Int × Int × Int)) × Int) × (Int × Int) × Int) := torporref08_without_g LOOPx torporref07_Give torporref08_Places torporref08_Laid
theorem torporref08_without_ok : FnOK Go.Proofs.Try.prog fn_torporref08_without sg_torporref08_without torporref08_without := fn_of (P := Go.Proofs.Try.prog) (f := fn_torporref08_without) (sg := sg_torporref08_without) (sgs := [(fn_torporref07_Give, sg_torporref07_Give), (fn_torporref08_Places, sg_torporref08_Places), (fn_torporref08_Laid, sg_torporref08_Laid)]) (Gd := fun LP gs => torporref08_without_g LP gs.1 gs.2.1 gs.2.2.1) (hn := []) (h := []) (torporref07_Give, torporref08_Places, torporref08_Laid, ()) ⟨torporref07_Give_ok, torporref08_Places_ok, torporref08_Laid_ok, trivial⟩ (by kernel_rfl) (by kernel_rfl)

/-- torporref08.Pop -/
abbrev fn_torporref08_Pop : FuncId := 10
def sg_torporref08_Pop : Sig := ⟨⟨[(0, .ag [.vs 0 (.pr (.int .i64) (.pr (.int .i64) (.int .i64))), .it .i64]), (1, .ag [.it .i64, .it .i64])], []⟩, [⟨[(0, .ag [.vs 0 (.pr (.int .i64) (.pr (.int .i64) (.int .i64))), .it .i64]), (1, .ag [.it .i64, .it .i64]), (2, .it .i64), (3, .it .i64)], []⟩]⟩
def torporref08_Pop_g (LP : LPT) (torporref08_Right : (((List (Int × Int × Int)) × Int) × Int × Int) → Option (Bool)) (torporref08_Tasks : (((List (Int × Int × Int)) × Int) × Int × Int) → Option (List Int)) (torporref08_without : (((List (Int × Int × Int)) × Int) × (Int × Int) × Int) → Option (((List (Int × Int × Int)) × Int) × (Int × Int) × Int)) : (((List (Int × Int × Int)) × Int) × Int × Int) → Option (((List (Int × Int × Int)) × Int) × (Int × Int) × Int × Int) := fun ((x1, x2), x3, x4) =>
  (torporref08_Right ((x1, x2), x3, x4)).bind fun x5 => 
    (bif !x5 then some ((x1, x2), (x3, x4), 0, 1)
    else 
      ((torporref08_Tasks ((x1, x2), x3, x4)).bind fun x6 => 
        (bif decide ((x6.length : Int) = (0 : Int)) then some ((x1, x2), (x3, x4), 0, 7)
        else 
          ((torporref08_without ((x1, x2), (x3, x4), 0)).bind fun ((x7, x8), (x9, x10), x11) => 
            (bif !decide (x11 = (0 : Int)) then some ((x1, x2), (x3, x4), 0, x11)
            else 
              (bif decide (0 ≤ 0) && decide (0 < (x6.length : Int)) then 
                (bif decide ((0 : Int).toNat < x6.length) then some ((x7, x8), (x9, x10), Ty.at (.int .i64) x6 ((0 : Int).toNat), 0)
                  else none)
                else none))))))
def torporref08_Pop : (((List (Int × Int × Int)) × Int) × Int × Int) → Option (((List (Int × Int × Int)) × Int) × (Int × Int) × Int × Int) := torporref08_Pop_g LOOPx torporref08_Right torporref08_Tasks torporref08_without
theorem torporref08_Pop_ok : FnOK Go.Proofs.Try.prog fn_torporref08_Pop sg_torporref08_Pop torporref08_Pop := fn_of (P := Go.Proofs.Try.prog) (f := fn_torporref08_Pop) (sg := sg_torporref08_Pop) (sgs := [(fn_torporref08_Right, sg_torporref08_Right), (fn_torporref08_Tasks, sg_torporref08_Tasks), (fn_torporref08_without, sg_torporref08_without)]) (Gd := fun LP gs => torporref08_Pop_g LP gs.1 gs.2.1 gs.2.2.1) (hn := []) (h := []) (torporref08_Right, torporref08_Tasks, torporref08_without, ()) ⟨torporref08_Right_ok, torporref08_Tasks_ok, torporref08_without_ok, trivial⟩ (by kernel_rfl) (by kernel_rfl)

/-- torporref08.Drop -/
abbrev fn_torporref08_Drop : FuncId := 12
def sg_torporref08_Drop : Sig := ⟨⟨[(0, .ag [.vs 0 (.pr (.int .i64) (.pr (.int .i64) (.int .i64))), .it .i64]), (1, .ag [.it .i64, .it .i64]), (2, .it .i64)], []⟩, [⟨[(0, .ag [.vs 0 (.pr (.int .i64) (.pr (.int .i64) (.int .i64))), .it .i64]), (1, .ag [.it .i64, .it .i64]), (2, .it .i64)], []⟩]⟩
def torporref08_Drop_g (LP : LPT) (torporref08_Right : (((List (Int × Int × Int)) × Int) × Int × Int) → Option (Bool)) (torporref08_Tasks : (((List (Int × Int × Int)) × Int) × Int × Int) → Option (List Int)) (torporref08_without : (((List (Int × Int × Int)) × Int) × (Int × Int) × Int) → Option (((List (Int × Int × Int)) × Int) × (Int × Int) × Int)) : (((List (Int × Int × Int)) × Int) × (Int × Int) × Int) → Option (((List (Int × Int × Int)) × Int) × (Int × Int) × Int) := fun ((x1, x2), (x3, x4), x5) =>
  (torporref08_Right ((x1, x2), x3, x4)).bind fun x6 => 
    (bif !x6 then some ((x1, x2), (x3, x4), 1)
    else 
      ((torporref08_Tasks ((x1, x2), x3, x4)).bind fun x7 => 
        (LP ((Int × Int) × ((List (Int × Int × Int)) × Int) × (Int × Int) × Int × (Int × Int) × List Int) (((List (Int × Int × Int)) × Int) × (Int × Int) × Int) (fun ((x8, x9), (x10, x11), (x12, x13), x14, (x15, x16), x17) =>
          bif decide (x9 < (x17.length : Int)) then 
              (bif decide (0 ≤ x9) && decide (x9 < (x17.length : Int)) then 
                (bif decide (x9.toNat < x17.length) then 
                  (bif decide ((Ty.at (.int .i64) x17 x9.toNat) = x8) then 
                      ((torporref08_without ((x10, x11), (x12, x13), x9)).bind fun ((x18, x19), (x20, x21), x22) => some (.inr ((x18, x19), (x20, x21), x22)))
                  else some (.inl ((x8, IntKind.i64.wrap (x9 + (1 : Int))), (x10, x11), (x12, x13), x14, (x15, x16), x17)))
                  else none)
                else none)
          else some (.inr ((x10, x11), (x12, x13), 7)))
          ((x5, 0), (x1, x2), (x3, x4), 0, (0, 0), x7))))
def torporref08_Drop : (((List (Int × Int × Int)) × Int) × (Int × Int) × Int) → Option (((List (Int × Int × Int)) × Int) × (Int × Int) × Int) := torporref08_Drop_g LOOPx torporref08_Right torporref08_Tasks torporref08_without
theorem torporref08_Drop_ok : FnOK Go.Proofs.Try.prog fn_torporref08_Drop sg_torporref08_Drop torporref08_Drop := fn_of (P := Go.Proofs.Try.prog) (f := fn_torporref08_Drop) (sg := sg_torporref08_Drop) (sgs := [(fn_torporref08_Right, sg_torporref08_Right), (fn_torporref08_Tasks, sg_torporref08_Tasks), (fn_torporref08_without, sg_torporref08_without)]) (Gd := fun LP gs => torporref08_Drop_g LP gs.1 gs.2.1 gs.2.2.1) (hn := []) (h := [(16, false, ⟨[(2, .it .i64), (3, .pt 0 0), (4, .pt 1 0), (6, .pt 2 0), (7, .pt 3 0), (9, .gr 4), (10, .it .i64)], [.va [.vs 0 (.pr (.int .i64) (.pr (.int .i64) (.int .i64))), .it .i64], .va [.it .i64, .it .i64], .va [.sn, .it .i64], .va [.it .i64, .it .i64], .gs true (.int .i64)]⟩)]) (torporref08_Right, torporref08_Tasks, torporref08_without, ()) ⟨torporref08_Right_ok, torporref08_Tasks_ok, torporref08_without_ok, trivial⟩ (by kernel_rfl) (by kernel_rfl)

/-- torporlaw08.alive -/
abbrev fn_torporlaw08_alive : FuncId := 7
def sg_torporlaw08_alive : Sig := ⟨⟨[], []⟩, [⟨[(0, .bo)], []⟩]⟩
def torporlaw08_alive_g (LP : LPT) (torporref01_Ints : ((List Int) × List Int) → Option (Bool)) (torporref07_Copy : ((List (Int × Int × Int)) × Int) → Option (Int × List (Int × Int × Int))) (torporref07_Make : Int → Option ((Int × Int) × List (Int × Int × Int))) (queue_Right : (((List (Int × Int × Int)) × Int) × Int × Int) → Option (Bool)) (queue_Places : (((List (Int × Int × Int)) × Int) × Int × Int) → Option (List Int)) (queue_Tasks : (((List (Int × Int × Int)) × Int) × Int × Int) → Option (List Int)) (queue_Push : (((List (Int × Int × Int)) × Int) × (Int × Int) × Int × Int × Bool) → Option (((List (Int × Int × Int)) × Int) × (Int × Int) × Int)) (queue_Pop : (((List (Int × Int × Int)) × Int) × Int × Int) → Option (((List (Int × Int × Int)) × Int) × (Int × Int) × Int × Int)) (queue_Drop : (((List (Int × Int × Int)) × Int) × (Int × Int) × Int) → Option (((List (Int × Int × Int)) × Int) × (Int × Int) × Int)) : Unit → Option (Bool) := fun _ =>
  (torporref07_Make (3 : Int)).bind fun ((x1, x2), x3) => 
    ((queue_Push ((x3, x1), ((-1), (-1)), 5, 1, false)).bind fun ((x4, x5), (x6, x7), x8) => 
      ((queue_Push ((x4, x5), (x6, x7), 5, 2, false)).bind fun ((x9, x10), (x11, x12), x13) => 
        ((queue_Push ((x9, x10), (x11, x12), 5, 3, true)).bind fun ((x14, x15), (x16, x17), x18) => 
          ((queue_Push ((x14, x15), (x16, x17), 5, 4, true)).bind fun ((x19, x20), (x21, x22), x23) => 
            ((queue_Drop ((x14, x15), (x16, x17), 1)).bind fun ((x24, x25), (x26, x27), x28) => 
              ((queue_Pop ((x24, x25), x26, x27)).bind fun ((x29, x30), (x31, x32), x33, x34) => 
                ((torporref07_Copy (x14, x15)).bind fun (x35, x36) => 
                  ((queue_Pop ((x36, x35), (-1), (-1))).bind fun ((x37, x38), (x39, x40), x41, x42) => 
                    (bif decide (x8 = (0 : Int)) then 
                        (bif decide (x13 = (0 : Int)) then 
                            (bif decide (x18 = (0 : Int)) then 
                                (bif decide (x23 = (6 : Int)) then 
                                    (bif decide (x28 = (0 : Int)) then 
                                        (bif decide (x34 = (0 : Int)) then 
                                            (bif decide (x42 = (7 : Int)) then 
                                                (bif decide (x33 = (3 : Int)) then 
                                                    ((queue_Tasks ((x14, x15), x16, x17)).bind fun x43 => 
                                                      ((torporref01_Ints (x43, [3, 1, 2])).bind fun x44 => 
                                                        (bif x44 then 
                                                            ((queue_Places ((x14, x15), x16, x17)).bind fun x45 => 
                                                              ((torporref01_Ints (x45, [2, 0, 1])).bind fun x46 => 
                                                                (bif x46 then 
                                                                    ((queue_Tasks ((x24, x25), x26, x27)).bind fun x47 => 
                                                                      ((torporref01_Ints (x47, [3, 2])).bind fun x48 => 
                                                                        (bif x48 then 
                                                                            ((queue_Tasks ((x29, x30), x31, x32)).bind fun x49 => 
                                                                              ((torporref01_Ints (x49, [2])).bind fun x50 => 
                                                                                (bif x50 then 
                                                                                    ((queue_Right ((x29, x30), x31, x32)).bind fun x51 => 
                                                                                      (bif x51 then 
                                                                                          ((queue_Right ((x29, x30), x16, x17)).bind fun x52 => some (!x52))
                                                                                      else some false))
                                                                                else some false)))
                                                                        else some false)))
                                                                else some false)))
                                                        else some false)))
                                                else some false)
                                            else some false)
                                        else some false)
                                    else some false)
                                else some false)
                            else some false)
                        else some false)
                    else some false)))))))))
def torporlaw08_alive : Unit → Option (Bool) := torporlaw08_alive_g LOOPx torporref01_Ints torporref07_Copy torporref07_Make queue_Right queue_Places queue_Tasks queue_Push queue_Pop queue_Drop
theorem torporlaw08_alive_ok : FnOK Go.Proofs.Try.prog fn_torporlaw08_alive sg_torporlaw08_alive torporlaw08_alive := fn_of (P := Go.Proofs.Try.prog) (f := fn_torporlaw08_alive) (sg := sg_torporlaw08_alive) (sgs := [(fn_torporref01_Ints, sg_torporref01_Ints), (fn_torporref07_Copy, sg_torporref07_Copy), (fn_torporref07_Make, sg_torporref07_Make), (fn_queue_Right, sg_queue_Right), (fn_queue_Places, sg_queue_Places), (fn_queue_Tasks, sg_queue_Tasks), (fn_queue_Push, sg_queue_Push), (fn_queue_Pop, sg_queue_Pop), (fn_queue_Drop, sg_queue_Drop)]) (Gd := fun LP gs => torporlaw08_alive_g LP gs.1 gs.2.1 gs.2.2.1 gs.2.2.2.1 gs.2.2.2.2.1 gs.2.2.2.2.2.1 gs.2.2.2.2.2.2.1 gs.2.2.2.2.2.2.2.1 gs.2.2.2.2.2.2.2.2.1) (hn := []) (h := []) (torporref01_Ints, torporref07_Copy, torporref07_Make, queue_Right, queue_Places, queue_Tasks, queue_Push, queue_Pop, queue_Drop, ()) ⟨torporref01_Ints_ok, torporref07_Copy_ok, torporref07_Make_ok, queue_Right_ok, queue_Places_ok, queue_Tasks_ok, queue_Push_ok, queue_Pop_ok, queue_Drop_ok, trivial⟩ (by kernel_rfl) (by kernel_rfl)

/-- torporlaw08.QueueAnswers -/
abbrev fn_torporlaw08_QueueAnswers : FuncId := 3
def sg_torporlaw08_QueueAnswers : Sig := ⟨⟨[(0, .ag [.vs 0 (.pr (.int .i64) (.pr (.int .i64) (.int .i64))), .it .i64]), (1, .ag [.it .i64, .it .i64]), (2, .it .i64)], []⟩, [⟨[(0, .bo)], []⟩]⟩
def torporlaw08_QueueAnswers_g (LP : LPT) (torporref01_Ints : ((List Int) × List Int) → Option (Bool)) (torporref07_Copy : ((List (Int × Int × Int)) × Int) → Option (Int × List (Int × Int × Int))) (torporref07_Same : (((List (Int × Int × Int)) × Int) × (List (Int × Int × Int)) × Int) → Option (Bool)) (queue_Right : (((List (Int × Int × Int)) × Int) × Int × Int) → Option (Bool)) (queue_Places : (((List (Int × Int × Int)) × Int) × Int × Int) → Option (List Int)) (queue_Tasks : (((List (Int × Int × Int)) × Int) × Int × Int) → Option (List Int)) (queue_Pop : (((List (Int × Int × Int)) × Int) × Int × Int) → Option (((List (Int × Int × Int)) × Int) × (Int × Int) × Int × Int)) (queue_Drop : (((List (Int × Int × Int)) × Int) × (Int × Int) × Int) → Option (((List (Int × Int × Int)) × Int) × (Int × Int) × Int)) (torporref08_Right : (((List (Int × Int × Int)) × Int) × Int × Int) → Option (Bool)) (torporref08_Places : (((List (Int × Int × Int)) × Int) × Int × Int) → Option (List Int)) (torporref08_Tasks : (((List (Int × Int × Int)) × Int) × Int × Int) → Option (List Int)) (torporref08_Pop : (((List (Int × Int × Int)) × Int) × Int × Int) → Option (((List (Int × Int × Int)) × Int) × (Int × Int) × Int × Int)) (torporref08_Drop : (((List (Int × Int × Int)) × Int) × (Int × Int) × Int) → Option (((List (Int × Int × Int)) × Int) × (Int × Int) × Int)) (torporlaw08_alive : Unit → Option (Bool)) : (((List (Int × Int × Int)) × Int) × (Int × Int) × Int) → Option (Bool) := fun ((x1, x2), (x3, x4), x5) =>
  (torporlaw08_alive ()).bind fun x6 => 
    (bif !x6 then some false
    else 
      (bif decide ((70 : Int) < (x1.length : Int)) then some true
      else 
        ((torporref07_Copy (x1, x2)).bind fun (x7, x8) => 
          ((queue_Pop ((x8, x7), x3, x4)).bind fun ((x9, x10), (x11, x12), x13, x14) => 
            ((torporref08_Pop ((x1, x2), x3, x4)).bind fun ((x15, x16), (x17, x18), x19, x20) => 
              ((queue_Drop ((x8, x7), (x3, x4), x5)).bind fun ((x21, x22), (x23, x24), x25) => 
                ((torporref08_Drop ((x1, x2), (x3, x4), x5)).bind fun ((x26, x27), (x28, x29), x30) => 
                  ((torporref07_Same ((x9, x10), x15, x16)).bind fun x31 => 
                    (bif x31 then 
                        (bif ((x11 == x17) && ((x12 == x18) && true)) then 
                            (bif decide (x13 = x19) then 
                                (bif decide (x14 = x20) then 
                                    ((torporref07_Same ((x21, x22), x26, x27)).bind fun x32 => 
                                      (bif x32 then 
                                          (bif ((x23 == x28) && ((x24 == x29) && true)) then 
                                              (bif decide (x25 = x30) then 
                                                  ((queue_Right ((x1, x2), x3, x4)).bind fun x33 => 
                                                    ((torporref08_Right ((x1, x2), x3, x4)).bind fun x34 => 
                                                      (bif x33 == x34 then 
                                                          ((queue_Tasks ((x1, x2), x3, x4)).bind fun x35 => 
                                                            ((torporref08_Tasks ((x1, x2), x3, x4)).bind fun x36 => 
                                                              ((torporref01_Ints (x35, x36)).bind fun x37 => 
                                                                (bif x37 then 
                                                                    ((queue_Places ((x1, x2), x3, x4)).bind fun x38 => 
                                                                      ((torporref08_Places ((x1, x2), x3, x4)).bind fun x39 => 
                                                                        ((torporref01_Ints (x38, x39)).bind fun x40 => 
                                                                          (bif x40 then 
                                                                              ((torporref07_Same ((x8, x7), x1, x2)).bind fun x41 => some x41)
                                                                          else some false))))
                                                                else some false))))
                                                      else some false)))
                                              else some false)
                                          else some false)
                                      else some false))
                                else some false)
                            else some false)
                        else some false)
                    else some false)))))))))
def torporlaw08_QueueAnswers : (((List (Int × Int × Int)) × Int) × (Int × Int) × Int) → Option (Bool) := torporlaw08_QueueAnswers_g LOOPx torporref01_Ints torporref07_Copy torporref07_Same queue_Right queue_Places queue_Tasks queue_Pop queue_Drop torporref08_Right torporref08_Places torporref08_Tasks torporref08_Pop torporref08_Drop torporlaw08_alive
theorem torporlaw08_QueueAnswers_ok : FnOK Go.Proofs.Try.prog fn_torporlaw08_QueueAnswers sg_torporlaw08_QueueAnswers torporlaw08_QueueAnswers := fn_of (P := Go.Proofs.Try.prog) (f := fn_torporlaw08_QueueAnswers) (sg := sg_torporlaw08_QueueAnswers) (sgs := [(fn_torporref01_Ints, sg_torporref01_Ints), (fn_torporref07_Copy, sg_torporref07_Copy), (fn_torporref07_Same, sg_torporref07_Same), (fn_queue_Right, sg_queue_Right), (fn_queue_Places, sg_queue_Places), (fn_queue_Tasks, sg_queue_Tasks), (fn_queue_Pop, sg_queue_Pop), (fn_queue_Drop, sg_queue_Drop), (fn_torporref08_Right, sg_torporref08_Right), (fn_torporref08_Places, sg_torporref08_Places), (fn_torporref08_Tasks, sg_torporref08_Tasks), (fn_torporref08_Pop, sg_torporref08_Pop), (fn_torporref08_Drop, sg_torporref08_Drop), (fn_torporlaw08_alive, sg_torporlaw08_alive)]) (Gd := fun LP gs => torporlaw08_QueueAnswers_g LP gs.1 gs.2.1 gs.2.2.1 gs.2.2.2.1 gs.2.2.2.2.1 gs.2.2.2.2.2.1 gs.2.2.2.2.2.2.1 gs.2.2.2.2.2.2.2.1 gs.2.2.2.2.2.2.2.2.1 gs.2.2.2.2.2.2.2.2.2.1 gs.2.2.2.2.2.2.2.2.2.2.1 gs.2.2.2.2.2.2.2.2.2.2.2.1 gs.2.2.2.2.2.2.2.2.2.2.2.2.1 gs.2.2.2.2.2.2.2.2.2.2.2.2.2.1) (hn := []) (h := []) (torporref01_Ints, torporref07_Copy, torporref07_Same, queue_Right, queue_Places, queue_Tasks, queue_Pop, queue_Drop, torporref08_Right, torporref08_Places, torporref08_Tasks, torporref08_Pop, torporref08_Drop, torporlaw08_alive, ()) ⟨torporref01_Ints_ok, torporref07_Copy_ok, torporref07_Same_ok, queue_Right_ok, queue_Places_ok, queue_Tasks_ok, queue_Pop_ok, queue_Drop_ok, torporref08_Right_ok, torporref08_Places_ok, torporref08_Tasks_ok, torporref08_Pop_ok, torporref08_Drop_ok, torporlaw08_alive_ok, trivial⟩ (by kernel_rfl) (by kernel_rfl)

/-- torporlaw08.QueuePushes -/
abbrev fn_torporlaw08_QueuePushes : FuncId := 4
def sg_torporlaw08_QueuePushes : Sig := ⟨⟨[(0, .ag [.vs 0 (.pr (.int .i64) (.pr (.int .i64) (.int .i64))), .it .i64]), (1, .ag [.it .i64, .it .i64]), (2, .ag [.it .i64, .it .i64, .it .i64])], []⟩, [⟨[(0, .bo)], []⟩]⟩
def torporlaw08_QueuePushes_g (LP : LPT) (torporref01_Ints : ((List Int) × List Int) → Option (Bool)) (torporref07_Copy : ((List (Int × Int × Int)) × Int) → Option (Int × List (Int × Int × Int))) (torporref07_Same : (((List (Int × Int × Int)) × Int) × (List (Int × Int × Int)) × Int) → Option (Bool)) (queue_Tasks : (((List (Int × Int × Int)) × Int) × Int × Int) → Option (List Int)) (queue_Push : (((List (Int × Int × Int)) × Int) × (Int × Int) × Int × Int × Bool) → Option (((List (Int × Int × Int)) × Int) × (Int × Int) × Int)) (torporref08_Push : (((List (Int × Int × Int)) × Int) × (Int × Int) × Int × Int × Bool) → Option (((List (Int × Int × Int)) × Int) × (Int × Int) × Int)) (torporlaw08_alive : Unit → Option (Bool)) : (((List (Int × Int × Int)) × Int) × (Int × Int) × Int × Int × Int) → Option (Bool) := fun ((x1, x2), (x3, x4), x5, x6, x7) =>
  (torporlaw08_alive ()).bind fun x8 => 
    (bif !x8 then some false
    else 
      (bif decide ((70 : Int) < (x1.length : Int)) then some true
      else 
        ((torporref07_Copy (x1, x2)).bind fun (x9, x10) => 
          (bif !decide ((2 : Int) = 0) then 
            ((queue_Push ((x10, x9), (x3, x4), x5, x6, !decide ((x7.tmod (2 : Int)) = (0 : Int)))).bind fun ((x11, x12), (x13, x14), x15) => 
              ((torporref08_Push ((x1, x2), (x3, x4), x5, x6, !decide ((x7.tmod (2 : Int)) = (0 : Int)))).bind fun ((x16, x17), (x18, x19), x20) => 
                ((torporref07_Same ((x11, x12), x16, x17)).bind fun x21 => 
                  (bif !(!x21) then 
                      (bif !(!((x13 == x18) && ((x14 == x19) && true))) then 
                          (bif !(!decide (x15 = x20)) then 
                              ((torporref07_Same ((x10, x9), x1, x2)).bind fun x22 => 
                                (bif !x22 then some false
                                else 
                                  (bif !decide (x15 = (0 : Int)) then 
                                      ((torporref07_Same ((x11, x12), x1, x2)).bind fun x23 => 
                                        (bif x23 then some ((x13 == x3) && ((x14 == x4) && true))
                                        else some false))
                                  else 
                                    ((queue_Tasks ((x1, x2), x3, x4)).bind fun x24 => 
                                      ((queue_Tasks ((x11, x12), x13, x14)).bind fun x25 => 
                                        (bif !decide ((x7.tmod (2 : Int)) = (0 : Int)) then 
                                            (bif decide ((([x6]).length + x24.length) * 8 ≤ 140737488355328) then 
                                              ((torporref01_Ints (x25, ([x6]) ++ x24)).bind fun x26 => some x26)
                                              else none)
                                        else 
                                          (bif decide ((([] : List Int).length + x24.length) * 8 ≤ 140737488355328) then 
                                            (bif decide (((([] : List Int) ++ x24).length + ([x6]).length) * 8 ≤ 140737488355328) then 
                                              ((torporref01_Ints (x25, (([] : List Int) ++ x24) ++ ([x6]))).bind fun x27 => some x27)
                                              else none)
                                            else none)))))))
                          else some false)
                      else some false)
                  else some false))))
            else none))))
def torporlaw08_QueuePushes : (((List (Int × Int × Int)) × Int) × (Int × Int) × Int × Int × Int) → Option (Bool) := torporlaw08_QueuePushes_g LOOPx torporref01_Ints torporref07_Copy torporref07_Same queue_Tasks queue_Push torporref08_Push torporlaw08_alive
theorem torporlaw08_QueuePushes_ok : FnOK Go.Proofs.Try.prog fn_torporlaw08_QueuePushes sg_torporlaw08_QueuePushes torporlaw08_QueuePushes := fn_of (P := Go.Proofs.Try.prog) (f := fn_torporlaw08_QueuePushes) (sg := sg_torporlaw08_QueuePushes) (sgs := [(fn_torporref01_Ints, sg_torporref01_Ints), (fn_torporref07_Copy, sg_torporref07_Copy), (fn_torporref07_Same, sg_torporref07_Same), (fn_queue_Tasks, sg_queue_Tasks), (fn_queue_Push, sg_queue_Push), (fn_torporref08_Push, sg_torporref08_Push), (fn_torporlaw08_alive, sg_torporlaw08_alive)]) (Gd := fun LP gs => torporlaw08_QueuePushes_g LP gs.1 gs.2.1 gs.2.2.1 gs.2.2.2.1 gs.2.2.2.2.1 gs.2.2.2.2.2.1 gs.2.2.2.2.2.2.1) (hn := []) (h := []) (torporref01_Ints, torporref07_Copy, torporref07_Same, queue_Tasks, queue_Push, torporref08_Push, torporlaw08_alive, ()) ⟨torporref01_Ints_ok, torporref07_Copy_ok, torporref07_Same_ok, queue_Tasks_ok, queue_Push_ok, torporref08_Push_ok, torporlaw08_alive_ok, trivial⟩ (by kernel_rfl) (by kernel_rfl)

/-- torporlaw08.QueueBack -/
abbrev fn_torporlaw08_QueueBack : FuncId := 5
def sg_torporlaw08_QueueBack : Sig := ⟨⟨[(0, .ag [.vs 0 (.pr (.int .i64) (.pr (.int .i64) (.int .i64))), .it .i64]), (1, .ag [.it .i64, .it .i64]), (2, .ag [.it .u8, .it .u8])], []⟩, [⟨[(0, .bo)], []⟩]⟩
def torporlaw08_QueueBack_g (LP : LPT) (torporref07_Same : (((List (Int × Int × Int)) × Int) × (List (Int × Int × Int)) × Int) → Option (Bool)) (queue_Right : (((List (Int × Int × Int)) × Int) × Int × Int) → Option (Bool)) (queue_Push : (((List (Int × Int × Int)) × Int) × (Int × Int) × Int × Int × Bool) → Option (((List (Int × Int × Int)) × Int) × (Int × Int) × Int)) (queue_Pop : (((List (Int × Int × Int)) × Int) × Int × Int) → Option (((List (Int × Int × Int)) × Int) × (Int × Int) × Int × Int)) (torporlaw08_alive : Unit → Option (Bool)) : (((List (Int × Int × Int)) × Int) × (Int × Int) × Int × Int) → Option (Bool) := fun ((x1, x2), (x3, x4), x5, x6) =>
  (torporlaw08_alive ()).bind fun x7 => 
    (bif !x7 then some false
    else 
      (bif decide ((70 : Int) < (x1.length : Int)) then some true
      else 
        ((queue_Push ((x1, x2), (x3, x4), IntKind.i64.wrap x5, IntKind.i64.wrap x6, true)).bind fun ((x8, x9), (x10, x11), x12) => 
          (bif !decide (x12 = (0 : Int)) then 
              ((torporref07_Same ((x8, x9), x1, x2)).bind fun x13 => 
                (bif x13 then some ((x10 == x3) && ((x11 == x4) && true))
                else some false))
          else 
            ((queue_Pop ((x8, x9), x10, x11)).bind fun ((x14, x15), (x16, x17), x18, x19) => 
              (bif decide (x19 = (0 : Int)) then 
                  (bif decide (x18 = (IntKind.i64.wrap x6)) then 
                      ((torporref07_Same ((x14, x15), x1, x2)).bind fun x20 => 
                        (bif x20 then 
                            (bif ((x16 == x3) && ((x17 == x4) && true)) then 
                                ((queue_Right ((x8, x9), x10, x11)).bind fun x21 => some x21)
                            else some false)
                        else some false))
                  else some false)
              else some false))))))
def torporlaw08_QueueBack : (((List (Int × Int × Int)) × Int) × (Int × Int) × Int × Int) → Option (Bool) := torporlaw08_QueueBack_g LOOPx torporref07_Same queue_Right queue_Push queue_Pop torporlaw08_alive
theorem torporlaw08_QueueBack_ok : FnOK Go.Proofs.Try.prog fn_torporlaw08_QueueBack sg_torporlaw08_QueueBack torporlaw08_QueueBack := fn_of (P := Go.Proofs.Try.prog) (f := fn_torporlaw08_QueueBack) (sg := sg_torporlaw08_QueueBack) (sgs := [(fn_torporref07_Same, sg_torporref07_Same), (fn_queue_Right, sg_queue_Right), (fn_queue_Push, sg_queue_Push), (fn_queue_Pop, sg_queue_Pop), (fn_torporlaw08_alive, sg_torporlaw08_alive)]) (Gd := fun LP gs => torporlaw08_QueueBack_g LP gs.1 gs.2.1 gs.2.2.1 gs.2.2.2.1 gs.2.2.2.2.1) (hn := []) (h := []) (torporref07_Same, queue_Right, queue_Push, queue_Pop, torporlaw08_alive, ()) ⟨torporref07_Same_ok, queue_Right_ok, queue_Push_ok, queue_Pop_ok, torporlaw08_alive_ok, trivial⟩ (by kernel_rfl) (by kernel_rfl)

/-- torporlaw08.QueueTurns -/
abbrev fn_torporlaw08_QueueTurns : FuncId := 6
def sg_torporlaw08_QueueTurns : Sig := ⟨⟨[(0, .it .u8), (1, .vs 0 (.int .u8))], []⟩, [⟨[(0, .bo)], []⟩]⟩
def torporlaw08_QueueTurns_g (LP : LPT) (torporref07_Has : ((List Int) × Int) → Option (Bool)) (torporref01_Ints : ((List Int) × List Int) → Option (Bool)) (torporref07_Free : ((List (Int × Int × Int)) × Int) → Option (List Int)) (torporref07_Make : Int → Option ((Int × Int) × List (Int × Int × Int))) (queue_Right : (((List (Int × Int × Int)) × Int) × Int × Int) → Option (Bool)) (queue_Tasks : (((List (Int × Int × Int)) × Int) × Int × Int) → Option (List Int)) (queue_Push : (((List (Int × Int × Int)) × Int) × (Int × Int) × Int × Int × Bool) → Option (((List (Int × Int × Int)) × Int) × (Int × Int) × Int)) (queue_Pop : (((List (Int × Int × Int)) × Int) × Int × Int) → Option (((List (Int × Int × Int)) × Int) × (Int × Int) × Int × Int)) (queue_Drop : (((List (Int × Int × Int)) × Int) × (Int × Int) × Int) → Option (((List (Int × Int × Int)) × Int) × (Int × Int) × Int)) (torporlaw08_alive : Unit → Option (Bool)) : (Int × List Int) → Option (Bool) := fun (x1, x2) =>
  (torporlaw08_alive ()).bind fun x3 => 
    (bif !x3 then some false
    else 
      (bif decide ((60 : Int) < (x2.length : Int)) then some true
      else 
        (bif !decide ((20 : Int) = 0) then 
          ((torporref07_Make ((IntKind.i64.wrap x1).tmod (20 : Int))).bind fun ((x4, x5), x6) => 
            (bif !decide (x5 = (0 : Int)) then some false
            else 
              (Option.bind (α := (Int × ((List (Int × Int × Int)) × Int) × (Int × Int) × List Int) ⊕ Bool) (β := Bool) (LP (((List Int) × Int × Int) × ((List (Int × Int × Int)) × Int) × (Int × Int) × List Int) ((Int × ((List (Int × Int × Int)) × Int) × (Int × Int) × List Int) ⊕ Bool) (fun ((x7, x8, x9), (x10, x11), (x12, x13), x14) =>
                  bif decide (x9 < (x7.length : Int)) then 
                      (bif decide (0 ≤ x9) && decide (x9 < (x7.length : Int)) then 
                        (bif !decide ((4 : Int) = 0) then 
                          (bif decide (((Ty.at (.int .u8) x7 x9.toNat).tmod (4 : Int)) < (2 : Int)) then 
                              (bif decide (0 ≤ x9) && decide (x9 < (x7.length : Int)) then 
                                (bif !decide ((4 : Int) = 0) then 
                                  ((queue_Push ((x10, x11), (x12, x13), 3, x9, decide (((Ty.at (.int .u8) x7 x9.toNat).tmod (4 : Int)) = (1 : Int)))).bind fun ((x15, x16), (x17, x18), x19) => 
                                    (bif !((decide (x19 = (0 : Int))) == (decide ((x14.length : Int) < x8))) then some (.inr (.inr false))
                                    else 
                                      (bif decide (x19 = (0 : Int)) then 
                                          (bif decide (0 ≤ x9) && decide (x9 < (x7.length : Int)) then 
                                            (bif !decide ((4 : Int) = 0) then 
                                              (bif decide (((Ty.at (.int .u8) x7 x9.toNat).tmod (4 : Int)) = (1 : Int)) then 
                                                  (bif decide ((([x9]).length + x14.length) * 8 ≤ 140737488355328) then some (.inl ((x7, x8, IntKind.i64.wrap (x9 + (1 : Int))), (x15, x16), (x17, x18), ([x9]) ++ x14))
                                                    else none)
                                              else 
                                                (bif decide (x19 = (0 : Int)) then 
                                                    (bif decide ((x14.length + ([x9]).length) * 8 ≤ 140737488355328) then some (.inl ((x7, x8, IntKind.i64.wrap (x9 + (1 : Int))), (x15, x16), (x17, x18), x14 ++ ([x9])))
                                                      else none)
                                                else some (.inl ((x7, x8, IntKind.i64.wrap (x9 + (1 : Int))), (x15, x16), (x17, x18), x14))))
                                              else none)
                                            else none)
                                      else 
                                        (bif decide (x19 = (0 : Int)) then 
                                            (bif decide ((x14.length + ([x9]).length) * 8 ≤ 140737488355328) then some (.inl ((x7, x8, IntKind.i64.wrap (x9 + (1 : Int))), (x15, x16), (x17, x18), x14 ++ ([x9])))
                                              else none)
                                        else some (.inl ((x7, x8, IntKind.i64.wrap (x9 + (1 : Int))), (x15, x16), (x17, x18), x14))))))
                                  else none)
                                else none)
                          else 
                            (bif decide (0 ≤ x9) && decide (x9 < (x7.length : Int)) then 
                              (bif !decide ((4 : Int) = 0) then 
                                (bif decide (((Ty.at (.int .u8) x7 x9.toNat).tmod (4 : Int)) = (2 : Int)) then 
                                    ((queue_Pop ((x10, x11), x12, x13)).bind fun ((x20, x21), (x22, x23), x24, x25) => 
                                      (Option.bind (α := (((List Int) × Int × Int × Int) × ((List (Int × Int × Int)) × Int) × (Int × Int) × (List Int) × ((List (Int × Int × Int)) × Int) × Int × Int) ⊕ ((((List Int) × Int × Int) × ((List (Int × Int × Int)) × Int) × (Int × Int) × List Int) ⊕ ((Int × ((List (Int × Int × Int)) × Int) × (Int × Int) × List Int) ⊕ Bool))) (β := (((List Int) × Int × Int) × ((List (Int × Int × Int)) × Int) × (Int × Int) × List Int) ⊕ ((Int × ((List (Int × Int × Int)) × Int) × (Int × Int) × List Int) ⊕ Bool)) (bif !(!((decide (x25 = (0 : Int))) == (decide ((0 : Int) < (x14.length : Int))))) then 
                                            (bif decide (x25 = (0 : Int)) then 
                                                (bif decide (0 ≤ 0) && decide (0 < (x14.length : Int)) then 
                                                  (bif decide ((0 : Int).toNat < x14.length) then 
                                                    (bif !decide (x24 = (Ty.at (.int .i64) x14 ((0 : Int).toNat))) then some (.inr (.inr (.inr false)))
                                                    else some (.inl ((x7, x8, x9, x25), (x10, x11), (x12, x13), x14, (x20, x21), x22, x23)))
                                                    else none)
                                                  else none)
                                            else some (.inl ((x7, x8, x9, x25), (x10, x11), (x12, x13), x14, (x20, x21), x22, x23)))
                                        else some (.inr (.inr (.inr false))))
                                        fun z => match z with
                                        | .inl ((x26, x27, x28, x29), (x30, x31), (x32, x33), x34, (x35, x36), x37, x38) => bif decide (x29 = (0 : Int)) then 
                                              (bif decide (0 ≤ 1) && decide (1 ≤ (x34.length : Int)) then 
                                                (bif decide (((1 : Int).toNat) + (x34.length - ((1 : Int).toNat)) ≤ x34.length) && decide ((([] : List Int).length + ((x34.drop ((1 : Int).toNat)).take (x34.length - ((1 : Int).toNat))).length) * 8 ≤ 140737488355328) then some (.inl ((x26, x27, IntKind.i64.wrap (x28 + (1 : Int))), (x35, x36), (x37, x38), ([] : List Int) ++ ((x34.drop ((1 : Int).toNat)).take (x34.length - ((1 : Int).toNat)))))
                                                  else none)
                                                else none)
                                          else some (.inl ((x26, x27, IntKind.i64.wrap (x28 + (1 : Int))), (x35, x36), (x37, x38), x34))
                                        | .inr o => some o))
                                else 
                                  (bif decide (0 ≤ x9) && decide (x9 < (x7.length : Int)) then 
                                    (bif !decide ((4 : Int) = 0) then 
                                      ((queue_Drop ((x10, x11), (x12, x13), IntKind.i64.wrap (IntKind.u8.wrap ((Ty.at (.int .u8) x7 x9.toNat).tdiv (4 : Int))))).bind fun ((x39, x40), (x41, x42), x43) => 
                                        ((torporref07_Has (x14, IntKind.i64.wrap (IntKind.u8.wrap ((Ty.at (.int .u8) x7 x9.toNat).tdiv (4 : Int))))).bind fun x44 => 
                                          (bif !((decide (x43 = (0 : Int))) == x44) then some (.inr (.inr false))
                                          else 
                                            (LP (((List Int) × Int × Int × Int × Int × Int) × ((List (Int × Int × Int)) × Int) × (Int × Int) × (List Int) × ((List (Int × Int × Int)) × Int) × Int × Int) ((((List Int) × Int × Int) × ((List (Int × Int × Int)) × Int) × (Int × Int) × List Int) ⊕ ((Int × ((List (Int × Int × Int)) × Int) × (Int × Int) × List Int) ⊕ Bool)) (fun ((x45, x46, x47, x48, x49, x50), (x51, x52), (x53, x54), x55, (x56, x57), x58, x59) =>
                                              bif decide (x50 < (x55.length : Int)) then 
                                                  (bif decide (x49 = (0 : Int)) then 
                                                      (bif decide (0 ≤ x50) && decide (x50 < (x55.length : Int)) then 
                                                        (bif decide (x50.toNat < x55.length) then 
                                                          (bif decide ((Ty.at (.int .i64) x55 x50.toNat) = x48) then 
                                                              (bif (decide (0 ≤ x50) && decide (x50 ≤ (x55.length : Int))) && true then 
                                                                (bif decide (0 ≤ IntKind.i64.wrap (x50 + (1 : Int))) && decide (IntKind.i64.wrap (x50 + (1 : Int)) ≤ (x55.length : Int)) then 
                                                                  (bif decide (0 + (x50.toNat - 0) ≤ x55.length) && decide ((([] : List Int).length + ((x55.drop 0).take (x50.toNat - 0)).length) * 8 ≤ 140737488355328) then 
                                                                    (bif decide (((IntKind.i64.wrap (x50 + (1 : Int))).toNat) + (x55.length - ((IntKind.i64.wrap (x50 + (1 : Int))).toNat)) ≤ x55.length) && decide (((([] : List Int) ++ ((x55.drop 0).take (x50.toNat - 0))).length + ((x55.drop ((IntKind.i64.wrap (x50 + (1 : Int))).toNat)).take (x55.length - ((IntKind.i64.wrap (x50 + (1 : Int))).toNat))).length) * 8 ≤ 140737488355328) then some (.inl ((x45, x46, x47, x48, x49, IntKind.i64.wrap (x50 + (1 : Int))), (x51, x52), (x53, x54), (([] : List Int) ++ ((x55.drop 0).take (x50.toNat - 0))) ++ ((x55.drop ((IntKind.i64.wrap (x50 + (1 : Int))).toNat)).take (x55.length - ((IntKind.i64.wrap (x50 + (1 : Int))).toNat))), (x56, x57), x58, x59))
                                                                      else none)
                                                                    else none)
                                                                  else none)
                                                                else none)
                                                          else some (.inl ((x45, x46, x47, x48, x49, IntKind.i64.wrap (x50 + (1 : Int))), (x51, x52), (x53, x54), x55, (x56, x57), x58, x59)))
                                                          else none)
                                                        else none)
                                                  else some (.inr (.inl ((x45, x46, IntKind.i64.wrap (x47 + (1 : Int))), (x56, x57), (x58, x59), x55))))
                                              else some (.inr (.inl ((x45, x46, IntKind.i64.wrap (x47 + (1 : Int))), (x56, x57), (x58, x59), x55))))
                                              ((x7, x8, x9, IntKind.i64.wrap (IntKind.u8.wrap ((Ty.at (.int .u8) x7 x9.toNat).tdiv (4 : Int))), x43, 0), (x10, x11), (x12, x13), x14, (x39, x40), x41, x42)))))
                                      else none)
                                    else none))
                                else none)
                              else none))
                          else none)
                        else none)
                  else some (.inr (.inl (x8, (x10, x11), (x12, x13), x14))))
                  ((x2, (IntKind.i64.wrap x1).tmod (20 : Int), 0), (x6, x4), ((-1), (-1)), []))
                fun z => match z with
                | .inl (x60, (x61, x62), (x63, x64), x65) => (queue_Right ((x61, x62), x63, x64)).bind fun x66 => 
                    (bif x66 then 
                        ((queue_Tasks ((x61, x62), x63, x64)).bind fun x67 => 
                          ((torporref01_Ints (x67, x65)).bind fun x68 => 
                            (bif x68 then 
                                ((torporref07_Free (x61, x62)).bind fun x69 => some (decide ((x69.length : Int) = (IntKind.i64.wrap (x60 - (x65.length : Int))))))
                            else some false)))
                    else some false)
                | .inr o => some o)))
          else none)))
def torporlaw08_QueueTurns : (Int × List Int) → Option (Bool) := torporlaw08_QueueTurns_g LOOPx torporref07_Has torporref01_Ints torporref07_Free torporref07_Make queue_Right queue_Tasks queue_Push queue_Pop queue_Drop torporlaw08_alive
theorem torporlaw08_QueueTurns_ok : FnOK Go.Proofs.Try.prog fn_torporlaw08_QueueTurns sg_torporlaw08_QueueTurns torporlaw08_QueueTurns := fn_of (P := Go.Proofs.Try.prog) (f := fn_torporlaw08_QueueTurns) (sg := sg_torporlaw08_QueueTurns) (sgs := [(fn_torporref07_Has, sg_torporref07_Has), (fn_torporref01_Ints, sg_torporref01_Ints), (fn_torporref07_Free, sg_torporref07_Free), (fn_torporref07_Make, sg_torporref07_Make), (fn_queue_Right, sg_queue_Right), (fn_queue_Tasks, sg_queue_Tasks), (fn_queue_Push, sg_queue_Push), (fn_queue_Pop, sg_queue_Pop), (fn_queue_Drop, sg_queue_Drop), (fn_torporlaw08_alive, sg_torporlaw08_alive)]) (Gd := fun LP gs => torporlaw08_QueueTurns_g LP gs.1 gs.2.1 gs.2.2.1 gs.2.2.2.1 gs.2.2.2.2.1 gs.2.2.2.2.2.1 gs.2.2.2.2.2.2.1 gs.2.2.2.2.2.2.2.1 gs.2.2.2.2.2.2.2.2.1 gs.2.2.2.2.2.2.2.2.2.1) (hn := []) (h := [(35, true, ⟨[(5, .it .i64), (6, .pt 0 0), (8, .pt 1 0), (9, .gr 2)], [.va [.vs 0 (.pr (.int .i64) (.pr (.int .i64) (.int .i64))), .it .i64], .va [.it .i64, .it .i64], .gs true (.int .i64)]⟩), (38, false, ⟨[(1, .vs 0 (.int .u8)), (5, .it .i64), (6, .pt 0 0), (8, .pt 1 0), (9, .gr 2), (10, .it .i64)], [.va [.vs 0 (.pr (.int .i64) (.pr (.int .i64) (.int .i64))), .it .i64], .va [.it .i64, .it .i64], .gs true (.int .i64)]⟩), (78, true, ⟨[(1, .vs 0 (.int .u8)), (5, .it .i64), (6, .pt 0 0), (8, .pt 1 0), (9, .gr 2), (10, .it .i64), (14, .pt 3 0), (15, .pt 4 0), (17, .it .i64)], [.va [.vs 0 (.pr (.int .i64) (.pr (.int .i64) (.int .i64))), .it .i64], .va [.it .i64, .it .i64], .gs true (.int .i64), .va [.vs 0 (.pr (.int .i64) (.pr (.int .i64) (.int .i64))), .it .i64], .va [.it .i64, .it .i64]]⟩), (108, false, ⟨[(1, .vs 0 (.int .u8)), (5, .it .i64), (6, .pt 0 0), (8, .pt 1 0), (9, .gr 2), (10, .it .i64), (18, .it .i64), (19, .pt 3 0), (20, .pt 4 0), (21, .it .i64), (22, .it .i64)], [.va [.vs 0 (.pr (.int .i64) (.pr (.int .i64) (.int .i64))), .it .i64], .va [.it .i64, .it .i64], .gs true (.int .i64), .va [.vs 0 (.pr (.int .i64) (.pr (.int .i64) (.int .i64))), .it .i64], .va [.it .i64, .it .i64]]⟩)]) (torporref07_Has, torporref01_Ints, torporref07_Free, torporref07_Make, queue_Right, queue_Tasks, queue_Push, queue_Pop, queue_Drop, torporlaw08_alive, ()) ⟨torporref07_Has_ok, torporref01_Ints_ok, torporref07_Free_ok, torporref07_Make_ok, queue_Right_ok, queue_Tasks_ok, queue_Push_ok, queue_Pop_ok, queue_Drop_ok, torporlaw08_alive_ok, trivial⟩ (by kernel_rfl) (by kernel_rfl)

end Go.AX
end
