/- The functions of this seat, as typed functions of Lean, written by a program; each with its proof. -/
import Derived.Test.YtgmacflaicapaaaGcA
import Derived.Test.YtgmacflaicapaaaGsA
import Derived.Test.YtgmacflaicapaaaGeB
import Derived.Test.YtgmacflaicapaaaProg
import Derived.KernelRfl
section
set_option linter.unusedVariables false
set_option maxRecDepth 100000
namespace Go.AX
open Go
abbrev fn_math_bits_Len64 : FuncId := 99
def sg_math_bits_Len64 : Sig := ⟨⟨[(0, .it .u64)], []⟩, [⟨[(0, .it .i64)], []⟩]⟩
def math_bits_Len64_g (LP : LPT) : Int → Option (Int) := fun x1 =>
  Option.bind (α := (Int × Int) ⊕ Int) (β := Int) (bif decide ((4294967296 : Int) ≤ x1) then 
        (bif decide (0 ≤ (32 : Int)) then some (.inl (x1.fdiv (2 ^ (min (32 : Int).toNat IntKind.u64.bits)), 32))
          else none)
    else some (.inl (x1, 0)))
    fun z => match z with
    | .inl (x2, x3) => Option.bind (α := (Int × Int) ⊕ Int) (β := Int) (bif decide ((65536 : Int) ≤ x2) then 
            (bif decide (0 ≤ (16 : Int)) then some (.inl (x2.fdiv (2 ^ (min (16 : Int).toNat IntKind.u64.bits)), IntKind.i64.wrap (x3 + (16 : Int))))
              else none)
        else some (.inl (x2, x3)))
        fun z => match z with
        | .inl (x4, x5) => bif decide ((256 : Int) ≤ x4) then 
              (bif decide (0 ≤ (8 : Int)) then 
                (bif decide (0 ≤ IntKind.u8.wrap (x4.fdiv (2 ^ (min (8 : Int).toNat IntKind.u64.bits)))) && decide (IntKind.u8.wrap (x4.fdiv (2 ^ (min (8 : Int).toNat IntKind.u64.bits))) < ((⟨#[0, 1, 2, 2, 3, 3, 3, 3, 4, 4, 4, 4, 4, 4, 4, 4, 5, 5, 5, 5, 5, 5, 5, 5, 5, 5, 5, 5, 5, 5, 5, 5, 6, 6, 6, 6, 6, 6, 6, 6, 6, 6, 6, 6, 6, 6, 6, 6, 6, 6, 6, 6, 6, 6, 6, 6, 6, 6, 6, 6, 6, 6, 6, 6, 7, 7, 7, 7, 7, 7, 7, 7, 7, 7, 7, 7, 7, 7, 7, 7, 7, 7, 7, 7, 7, 7, 7, 7, 7, 7, 7, 7, 7, 7, 7, 7, 7, 7, 7, 7, 7, 7, 7, 7, 7, 7, 7, 7, 7, 7, 7, 7, 7, 7, 7, 7, 7, 7, 7, 7, 7, 7, 7, 7, 7, 7, 7, 7, 8, 8, 8, 8, 8, 8, 8, 8, 8, 8, 8, 8, 8, 8, 8, 8, 8, 8, 8, 8, 8, 8, 8, 8, 8, 8, 8, 8, 8, 8, 8, 8, 8, 8, 8, 8, 8, 8, 8, 8, 8, 8, 8, 8, 8, 8, 8, 8, 8, 8, 8, 8, 8, 8, 8, 8, 8, 8, 8, 8, 8, 8, 8, 8, 8, 8, 8, 8, 8, 8, 8, 8, 8, 8, 8, 8, 8, 8, 8, 8, 8, 8, 8, 8, 8, 8, 8, 8, 8, 8, 8, 8, 8, 8, 8, 8, 8, 8, 8, 8, 8, 8, 8, 8, 8, 8, 8, 8, 8, 8, 8, 8, 8, 8, 8, 8, 8, 8, 8, 8, 8, 8, 8, 8, 8, 8, 8, 8]⟩ : ByteArray).size : Int)) then some (IntKind.i64.wrap ((IntKind.i64.wrap (x5 + (8 : Int))) + (IntKind.i64.wrap (bat (⟨#[0, 1, 2, 2, 3, 3, 3, 3, 4, 4, 4, 4, 4, 4, 4, 4, 5, 5, 5, 5, 5, 5, 5, 5, 5, 5, 5, 5, 5, 5, 5, 5, 6, 6, 6, 6, 6, 6, 6, 6, 6, 6, 6, 6, 6, 6, 6, 6, 6, 6, 6, 6, 6, 6, 6, 6, 6, 6, 6, 6, 6, 6, 6, 6, 7, 7, 7, 7, 7, 7, 7, 7, 7, 7, 7, 7, 7, 7, 7, 7, 7, 7, 7, 7, 7, 7, 7, 7, 7, 7, 7, 7, 7, 7, 7, 7, 7, 7, 7, 7, 7, 7, 7, 7, 7, 7, 7, 7, 7, 7, 7, 7, 7, 7, 7, 7, 7, 7, 7, 7, 7, 7, 7, 7, 7, 7, 7, 7, 8, 8, 8, 8, 8, 8, 8, 8, 8, 8, 8, 8, 8, 8, 8, 8, 8, 8, 8, 8, 8, 8, 8, 8, 8, 8, 8, 8, 8, 8, 8, 8, 8, 8, 8, 8, 8, 8, 8, 8, 8, 8, 8, 8, 8, 8, 8, 8, 8, 8, 8, 8, 8, 8, 8, 8, 8, 8, 8, 8, 8, 8, 8, 8, 8, 8, 8, 8, 8, 8, 8, 8, 8, 8, 8, 8, 8, 8, 8, 8, 8, 8, 8, 8, 8, 8, 8, 8, 8, 8, 8, 8, 8, 8, 8, 8, 8, 8, 8, 8, 8, 8, 8, 8, 8, 8, 8, 8, 8, 8, 8, 8, 8, 8, 8, 8, 8, 8, 8, 8, 8, 8, 8, 8, 8, 8, 8, 8]⟩ : ByteArray) (IntKind.u8.wrap (x4.fdiv (2 ^ (min (8 : Int).toNat IntKind.u64.bits)))).toNat))))
                  else none)
                else none)
          else 
            (bif decide (0 ≤ IntKind.u8.wrap x4) && decide (IntKind.u8.wrap x4 < ((⟨#[0, 1, 2, 2, 3, 3, 3, 3, 4, 4, 4, 4, 4, 4, 4, 4, 5, 5, 5, 5, 5, 5, 5, 5, 5, 5, 5, 5, 5, 5, 5, 5, 6, 6, 6, 6, 6, 6, 6, 6, 6, 6, 6, 6, 6, 6, 6, 6, 6, 6, 6, 6, 6, 6, 6, 6, 6, 6, 6, 6, 6, 6, 6, 6, 7, 7, 7, 7, 7, 7, 7, 7, 7, 7, 7, 7, 7, 7, 7, 7, 7, 7, 7, 7, 7, 7, 7, 7, 7, 7, 7, 7, 7, 7, 7, 7, 7, 7, 7, 7, 7, 7, 7, 7, 7, 7, 7, 7, 7, 7, 7, 7, 7, 7, 7, 7, 7, 7, 7, 7, 7, 7, 7, 7, 7, 7, 7, 7, 8, 8, 8, 8, 8, 8, 8, 8, 8, 8, 8, 8, 8, 8, 8, 8, 8, 8, 8, 8, 8, 8, 8, 8, 8, 8, 8, 8, 8, 8, 8, 8, 8, 8, 8, 8, 8, 8, 8, 8, 8, 8, 8, 8, 8, 8, 8, 8, 8, 8, 8, 8, 8, 8, 8, 8, 8, 8, 8, 8, 8, 8, 8, 8, 8, 8, 8, 8, 8, 8, 8, 8, 8, 8, 8, 8, 8, 8, 8, 8, 8, 8, 8, 8, 8, 8, 8, 8, 8, 8, 8, 8, 8, 8, 8, 8, 8, 8, 8, 8, 8, 8, 8, 8, 8, 8, 8, 8, 8, 8, 8, 8, 8, 8, 8, 8, 8, 8, 8, 8, 8, 8, 8, 8, 8, 8, 8, 8]⟩ : ByteArray).size : Int)) then some (IntKind.i64.wrap (x5 + (IntKind.i64.wrap (bat (⟨#[0, 1, 2, 2, 3, 3, 3, 3, 4, 4, 4, 4, 4, 4, 4, 4, 5, 5, 5, 5, 5, 5, 5, 5, 5, 5, 5, 5, 5, 5, 5, 5, 6, 6, 6, 6, 6, 6, 6, 6, 6, 6, 6, 6, 6, 6, 6, 6, 6, 6, 6, 6, 6, 6, 6, 6, 6, 6, 6, 6, 6, 6, 6, 6, 7, 7, 7, 7, 7, 7, 7, 7, 7, 7, 7, 7, 7, 7, 7, 7, 7, 7, 7, 7, 7, 7, 7, 7, 7, 7, 7, 7, 7, 7, 7, 7, 7, 7, 7, 7, 7, 7, 7, 7, 7, 7, 7, 7, 7, 7, 7, 7, 7, 7, 7, 7, 7, 7, 7, 7, 7, 7, 7, 7, 7, 7, 7, 7, 8, 8, 8, 8, 8, 8, 8, 8, 8, 8, 8, 8, 8, 8, 8, 8, 8, 8, 8, 8, 8, 8, 8, 8, 8, 8, 8, 8, 8, 8, 8, 8, 8, 8, 8, 8, 8, 8, 8, 8, 8, 8, 8, 8, 8, 8, 8, 8, 8, 8, 8, 8, 8, 8, 8, 8, 8, 8, 8, 8, 8, 8, 8, 8, 8, 8, 8, 8, 8, 8, 8, 8, 8, 8, 8, 8, 8, 8, 8, 8, 8, 8, 8, 8, 8, 8, 8, 8, 8, 8, 8, 8, 8, 8, 8, 8, 8, 8, 8, 8, 8, 8, 8, 8, 8, 8, 8, 8, 8, 8, 8, 8, 8, 8, 8, 8, 8, 8, 8, 8, 8, 8, 8, 8, 8, 8, 8, 8]⟩ : ByteArray) (IntKind.u8.wrap x4).toNat))))
              else none)
        | .inr o => some o
    | .inr o => some o
def math_bits_Len64 : Int → Option (Int) := math_bits_Len64_g LOOPx
theorem math_bits_Len64_ok : FnOK Go.Proofs.Try.prog fn_math_bits_Len64 sg_math_bits_Len64 math_bits_Len64 := fn_of (P := Go.Proofs.Try.prog) (f := fn_math_bits_Len64) (sg := sg_math_bits_Len64) (sgs := []) (Gd := fun LP gs => math_bits_Len64_g LP) (hn := []) (h := [(3, true, ⟨[(0, .it .u64), (2, .it .i64)], []⟩), (11, true, ⟨[(0, .it .u64), (2, .it .i64)], []⟩)]) (()) trivial (by kernel_rfl) (by kernel_rfl)
abbrev fn_torporref01_Size : FuncId := 88
def sg_torporref01_Size : Sig := ⟨⟨[(0, .it .u64)], []⟩, [⟨[(0, .it .i64)], []⟩]⟩
def torporref01_Size_g (LP : LPT) : Int → Option (Int) := fun x1 =>
  bif !decide ((256 : Int) = 0) then 
    (LP (Int × Int) (Int) (fun (x2, x3) =>
      bif decide ((0 : Int) < x2) then 
          (bif !decide ((256 : Int) = 0) then some (.inl (IntKind.u64.wrap (x2.tdiv (256 : Int)), IntKind.i64.wrap (x3 + (1 : Int))))
            else none)
      else some (.inr x3))
      (IntKind.u64.wrap (x1.tdiv (256 : Int)), 1))
    else none
def torporref01_Size : Int → Option (Int) := torporref01_Size_g LOOPx
theorem torporref01_Size_ok : FnOK Go.Proofs.Try.prog fn_torporref01_Size sg_torporref01_Size torporref01_Size := fn_of (P := Go.Proofs.Try.prog) (f := fn_torporref01_Size) (sg := sg_torporref01_Size) (sgs := []) (Gd := fun LP gs => torporref01_Size_g LP) (hn := []) (h := [(8, false, ⟨[(0, .it .u64), (3, .it .i64)], []⟩)]) (()) trivial (by kernel_rfl) (by kernel_rfl)
abbrev fn_torporref01_Fits : FuncId := 70
def sg_torporref01_Fits : Sig := ⟨⟨[(0, .it .u64), (1, .it .i64)], []⟩, [⟨[(0, .bo)], []⟩]⟩
def torporref01_Fits_g (LP : LPT) (torporref01_Size : Int → Option (Int)) : (Int × Int) → Option (Bool) := fun (x1, x2) =>
  bif decide ((1 : Int) ≤ x2) then 
      (bif decide (x2 ≤ (8 : Int)) then 
          ((torporref01_Size x1).bind fun x3 => some (decide (x3 ≤ x2)))
      else some false)
  else some false
def torporref01_Fits : (Int × Int) → Option (Bool) := torporref01_Fits_g LOOPx torporref01_Size
theorem torporref01_Fits_ok : FnOK Go.Proofs.Try.prog fn_torporref01_Fits sg_torporref01_Fits torporref01_Fits := fn_of (P := Go.Proofs.Try.prog) (f := fn_torporref01_Fits) (sg := sg_torporref01_Fits) (sgs := [(fn_torporref01_Size, sg_torporref01_Size)]) (Gd := fun LP gs => torporref01_Fits_g LP gs.1) (hn := []) (h := []) (torporref01_Size, ()) ⟨torporref01_Size_ok, trivial⟩ (by kernel_rfl) (by kernel_rfl)
abbrev fn_torporref01_Put : FuncId := 42
def sg_torporref01_Put : Sig := ⟨⟨[(0, .vs 0 (.int .u8)), (1, .it .u64), (2, .it .i64)], []⟩, [⟨[(0, .gr 0), (1, .it .i64)], [.gs true (.int .u8)]⟩]⟩
def torporref01_Put_g (LP : LPT) (torporref01_Fits : (Int × Int) → Option (Bool)) : ((List Int) × Int × Int) → Option (Int × List Int) := fun (x1, x2, x3) =>
  bif !(decide (x3 < (1 : Int))) then 
      (bif decide ((8 : Int) < x3) then some (1, [])
      else 
        ((torporref01_Fits (x2, x3)).bind fun x4 => 
          (bif !x4 then some (4, [])
          else 
            (bif decide ((([] : List Int).length + x1.length) * 1 ≤ 140737488355328) then 
              (LP ((Int × Int × Int) × List Int) (Int × List Int) (fun ((x5, x6, x7), x8) =>
                bif decide (x7 < x6) then 
                    (bif !decide ((256 : Int) = 0) then 
                      (bif decide ((x8.length + ([IntKind.u8.wrap (x5.tmod (256 : Int))]).length) * 1 ≤ 140737488355328) then 
                        (bif !decide ((256 : Int) = 0) then some (.inl ((IntKind.u64.wrap (x5.tdiv (256 : Int)), x6, IntKind.i64.wrap (x7 + (1 : Int))), x8 ++ ([IntKind.u8.wrap (x5.tmod (256 : Int))])))
                          else none)
                        else none)
                      else none)
                else some (.inr (0, x8)))
                ((x2, x3, 0), ([] : List Int) ++ x1))
              else none))))
  else some (1, [])
def torporref01_Put : ((List Int) × Int × Int) → Option (Int × List Int) := torporref01_Put_g LOOPx torporref01_Fits
theorem torporref01_Put_ok : FnOK Go.Proofs.Try.prog fn_torporref01_Put sg_torporref01_Put torporref01_Put := fn_of (P := Go.Proofs.Try.prog) (f := fn_torporref01_Put) (sg := sg_torporref01_Put) (sgs := [(fn_torporref01_Fits, sg_torporref01_Fits)]) (Gd := fun LP gs => torporref01_Put_g LP gs.1) (hn := []) (h := [(24, false, ⟨[(1, .it .u64), (2, .it .i64), (8, .gr 0), (9, .it .i64)], [.gs true (.int .u8)]⟩)]) (torporref01_Fits, ()) ⟨torporref01_Fits_ok, trivial⟩ (by kernel_rfl) (by kernel_rfl)
abbrev fn_torporref01_Cut : FuncId := 56
def sg_torporref01_Cut : Sig := ⟨⟨[(0, .vs 0 (.int .u8)), (1, .it .i64), (2, .it .i64)], []⟩, [⟨[(0, .gr 0), (1, .it .i64), (2, .it .i64)], [.gs true (.int .u8)]⟩]⟩
def torporref01_Cut_g (LP : LPT) : ((List Int) × Int × Int) → Option ((Int × Int) × List Int) := fun (x1, x2, x3) =>
  bif !(decide (x2 < (0 : Int))) then 
      (bif !(decide ((x1.length : Int) < x2)) then 
          (bif decide (x3 < (0 : Int)) then some ((0, 1), [])
          else 
            (bif decide ((IntKind.i64.wrap ((x1.length : Int) - x2)) < x3) then some ((0, 2), [])
            else 
              (bif (decide (0 ≤ IntKind.i64.wrap (x2 + x3)) && decide (IntKind.i64.wrap (x2 + x3) ≤ (x1.length : Int))) && (decide (0 ≤ x2) && decide (x2 ≤ ((IntKind.i64.wrap (x2 + x3)).toNat : Int))) then 
                (bif decide ((([] : List Int).length + ((x1.take ((IntKind.i64.wrap (x2 + x3)).toNat)).drop x2.toNat).length) * 1 ≤ 140737488355328) then some ((IntKind.i64.wrap (x2 + x3), 0), ([] : List Int) ++ ((x1.take ((IntKind.i64.wrap (x2 + x3)).toNat)).drop x2.toNat))
                  else none)
                else none)))
      else some ((0, 1), []))
  else some ((0, 1), [])
def torporref01_Cut : ((List Int) × Int × Int) → Option ((Int × Int) × List Int) := torporref01_Cut_g LOOPx
theorem torporref01_Cut_ok : FnOK Go.Proofs.Try.prog fn_torporref01_Cut sg_torporref01_Cut torporref01_Cut := fn_of (P := Go.Proofs.Try.prog) (f := fn_torporref01_Cut) (sg := sg_torporref01_Cut) (sgs := []) (Gd := fun LP gs => torporref01_Cut_g LP) (hn := []) (h := []) (()) trivial (by kernel_rfl) (by kernel_rfl)
abbrev fn_torporref01_Take : FuncId := 82
def sg_torporref01_Take : Sig := ⟨⟨[(0, .vs 0 (.int .u8)), (1, .it .i64), (2, .it .i64)], []⟩, [⟨[(0, .it .u64), (1, .it .i64), (2, .it .i64)], []⟩]⟩
def torporref01_Take_g (LP : LPT) (torporref01_Cut : ((List Int) × Int × Int) → Option ((Int × Int) × List Int)) : ((List Int) × Int × Int) → Option (Int × Int × Int) := fun (x1, x2, x3) =>
  bif !(decide (x3 < (1 : Int))) then 
      (bif decide ((8 : Int) < x3) then some (0, 0, 1)
      else 
        ((torporref01_Cut (x1, x2, x3)).bind fun ((x4, x5), x6) => 
          (bif !decide (x5 = (0 : Int)) then some (0, 0, x5)
          else 
            (LP ((Int × Int × Int) × List Int) (Int × Int × Int) (fun ((x7, x8, x9), x10) =>
              bif decide ((0 : Int) ≤ x9) then 
                  (bif decide (0 ≤ x9) && decide (x9 < (x10.length : Int)) then 
                    (bif decide (x9.toNat < x10.length) then some (.inl ((x7, IntKind.u64.wrap ((IntKind.u64.wrap (x8 * (256 : Int))) + (IntKind.u64.wrap (Ty.at (.int .u8) x10 x9.toNat))), IntKind.i64.wrap (x9 - (1 : Int))), x10))
                      else none)
                    else none)
              else some (.inr (x8, x7, 0)))
              ((x4, 0, IntKind.i64.wrap ((x6.length : Int) - (1 : Int))), x6)))))
  else some (0, 0, 1)
def torporref01_Take : ((List Int) × Int × Int) → Option (Int × Int × Int) := torporref01_Take_g LOOPx torporref01_Cut
theorem torporref01_Take_ok : FnOK Go.Proofs.Try.prog fn_torporref01_Take sg_torporref01_Take torporref01_Take := fn_of (P := Go.Proofs.Try.prog) (f := fn_torporref01_Take) (sg := sg_torporref01_Take) (sgs := [(fn_torporref01_Cut, sg_torporref01_Cut)]) (Gd := fun LP gs => torporref01_Take_g LP gs.1) (hn := []) (h := [(26, false, ⟨[(9, .gr 0), (10, .it .i64), (12, .it .u64), (13, .it .i64)], [.gs true (.int .u8)]⟩)]) (torporref01_Cut, ()) ⟨torporref01_Cut_ok, trivial⟩ (by kernel_rfl) (by kernel_rfl)
abbrev fn_torporref02_Bytes : FuncId := 68
def sg_torporref02_Bytes : Sig := ⟨⟨[(0, .it .u64)], []⟩, [⟨[(0, .gr 0)], [.gs true (.int .u8)]⟩]⟩
def torporref02_Bytes_g (LP : LPT) : Int → Option (List Int) := fun x1 =>
  LP (Int × List Int) (List Int) (fun (x2, x3) =>
    bif decide ((127 : Int) < x2) then 
        (bif !decide ((128 : Int) = 0) then 
          (bif decide ((x3.length + ([IntKind.u8.wrap (IntKind.u64.wrap ((x2.tmod (128 : Int)) + (128 : Int)))]).length) * 1 ≤ 140737488355328) then 
            (bif !decide ((128 : Int) = 0) then some (.inl (IntKind.u64.wrap (x2.tdiv (128 : Int)), x3 ++ ([IntKind.u8.wrap (IntKind.u64.wrap ((x2.tmod (128 : Int)) + (128 : Int)))])))
              else none)
            else none)
          else none)
    else 
      (inR (bif decide ((x3.length + ([IntKind.u8.wrap x2]).length) * 1 ≤ 140737488355328) then some (x3 ++ ([IntKind.u8.wrap x2]))
          else none)))
    (x1, [])
def torporref02_Bytes : Int → Option (List Int) := torporref02_Bytes_g LOOPx
theorem torporref02_Bytes_ok : FnOK Go.Proofs.Try.prog fn_torporref02_Bytes sg_torporref02_Bytes torporref02_Bytes := fn_of (P := Go.Proofs.Try.prog) (f := fn_torporref02_Bytes) (sg := sg_torporref02_Bytes) (sgs := []) (Gd := fun LP gs => torporref02_Bytes_g LP) (hn := []) (h := [(6, false, ⟨[(0, .it .u64), (3, .gr 0)], [.gs true (.int .u8)]⟩)]) (()) trivial (by kernel_rfl) (by kernel_rfl)
abbrev fn_torporref02_Append : FuncId := 89
def sg_torporref02_Append : Sig := ⟨⟨[(0, .vs 0 (.int .u8)), (1, .it .u64)], []⟩, [⟨[(0, .gr 0)], [.gs true (.int .u8)]⟩]⟩
def torporref02_Append_g (LP : LPT) (torporref02_Bytes : Int → Option (List Int)) : ((List Int) × Int) → Option (List Int) := fun (x1, x2) =>
  bif decide ((([] : List Int).length + x1.length) * 1 ≤ 140737488355328) then 
    ((torporref02_Bytes x2).bind fun x3 => 
      (bif decide (((([] : List Int) ++ x1).length + x3.length) * 1 ≤ 140737488355328) then some ((([] : List Int) ++ x1) ++ x3)
        else none))
    else none
def torporref02_Append : ((List Int) × Int) → Option (List Int) := torporref02_Append_g LOOPx torporref02_Bytes
theorem torporref02_Append_ok : FnOK Go.Proofs.Try.prog fn_torporref02_Append sg_torporref02_Append torporref02_Append := fn_of (P := Go.Proofs.Try.prog) (f := fn_torporref02_Append) (sg := sg_torporref02_Append) (sgs := [(fn_torporref02_Bytes, sg_torporref02_Bytes)]) (Gd := fun LP gs => torporref02_Append_g LP gs.1) (hn := []) (h := []) (torporref02_Bytes, ()) ⟨torporref02_Bytes_ok, trivial⟩ (by kernel_rfl) (by kernel_rfl)
abbrev fn_torporref02_Read : FuncId := 83
def sg_torporref02_Read : Sig := ⟨⟨[(0, .vs 0 (.int .u8)), (1, .it .i64)], []⟩, [⟨[(0, .it .u64), (1, .it .i64), (2, .it .i64)], []⟩]⟩
def torporref02_Read_g (LP : LPT) : ((List Int) × Int) → Option (Int × Int × Int) := fun (x1, x2) =>
  bif !(decide (x2 < (0 : Int))) then 
      (bif decide ((x1.length : Int) < x2) then some (0, 0, 1)
      else 
        (LP ((List Int) × Int × Int × Int × Int) (Int × Int × Int) (fun (x3, x4, x5, x6, x7) =>
          bif decide ((IntKind.i64.wrap (x4 + x7)) = (x3.length : Int)) then some (.inr (0, 0, 2))
          else 
            (bif decide (0 ≤ IntKind.i64.wrap (x4 + x7)) && decide (IntKind.i64.wrap (x4 + x7) < (x3.length : Int)) then 
              (Option.bind (α := ((List Int) × Int × Int × Int × Int × Int) ⊕ (((List Int) × Int × Int × Int × Int) ⊕ (Int × Int × Int))) (β := ((List Int) × Int × Int × Int × Int) ⊕ (Int × Int × Int)) (bif decide (x7 = (9 : Int)) then 
                    (bif decide ((1 : Int) < (Ty.at (.int .u8) x3 ((IntKind.i64.wrap (x4 + x7)).toNat))) then some (.inr (.inr (0, 0, 4)))
                    else some (.inl (x3, x4, x5, x6, x7, Ty.at (.int .u8) x3 ((IntKind.i64.wrap (x4 + x7)).toNat))))
                else some (.inl (x3, x4, x5, x6, x7, Ty.at (.int .u8) x3 ((IntKind.i64.wrap (x4 + x7)).toNat))))
                fun z => match z with
                | .inl (x8, x9, x10, x11, x12, x13) => bif !decide ((128 : Int) = 0) then 
                    (bif decide ((127 : Int) < x13) then some (.inl (x8, x9, IntKind.u64.wrap (x10 + (IntKind.u64.wrap ((IntKind.u64.wrap (x13.tmod (128 : Int))) * x11))), IntKind.u64.wrap (x11 * (128 : Int)), IntKind.i64.wrap (x12 + (1 : Int))))
                    else 
                      (bif decide (x13 = (0 : Int)) then 
                          (bif decide ((0 : Int) < x12) then some (.inr (0, 0, 3))
                          else some (.inr (IntKind.u64.wrap (x10 + (IntKind.u64.wrap ((IntKind.u64.wrap (x13.tmod (128 : Int))) * x11))), IntKind.i64.wrap ((IntKind.i64.wrap (x9 + x12)) + (1 : Int)), 0)))
                      else some (.inr (IntKind.u64.wrap (x10 + (IntKind.u64.wrap ((IntKind.u64.wrap (x13.tmod (128 : Int))) * x11))), IntKind.i64.wrap ((IntKind.i64.wrap (x9 + x12)) + (1 : Int)), 0))))
                    else none
                | .inr o => some o)
              else none))
          (x1, x2, 0, 1, 0)))
  else some (0, 0, 1)
def torporref02_Read : ((List Int) × Int) → Option (Int × Int × Int) := torporref02_Read_g LOOPx
theorem torporref02_Read_ok : FnOK Go.Proofs.Try.prog fn_torporref02_Read sg_torporref02_Read torporref02_Read := fn_of (P := Go.Proofs.Try.prog) (f := fn_torporref02_Read) (sg := sg_torporref02_Read) (sgs := []) (Gd := fun LP gs => torporref02_Read_g LP) (hn := []) (h := [(15, false, ⟨[(0, .vs 0 (.int .u8)), (1, .it .i64), (7, .it .u64), (8, .it .u64), (9, .it .i64)], []⟩), (29, true, ⟨[(0, .vs 0 (.int .u8)), (1, .it .i64), (7, .it .u64), (8, .it .u64), (9, .it .i64), (10, .it .u8)], []⟩)]) (()) trivial (by kernel_rfl) (by kernel_rfl)
abbrev fn_octet_Size : FuncId := 86
def sg_octet_Size : Sig := ⟨⟨[(0, .it .u64)], []⟩, [⟨[(0, .it .i64)], []⟩]⟩
def octet_Size_g (LP : LPT) (math_bits_Len64 : Int → Option (Int)) : Int → Option (Int) := fun x1 =>
  (math_bits_Len64 x1).bind fun x2 => 
    (bif !decide ((8 : Int) = 0) then some (bif decide ((IntKind.i64.wrap ((IntKind.i64.wrap ((IntKind.i64.wrap (x2 + (8 : Int))) - (1 : Int))).tdiv (8 : Int))) > (1 : Int)) then IntKind.i64.wrap ((IntKind.i64.wrap ((IntKind.i64.wrap (x2 + (8 : Int))) - (1 : Int))).tdiv (8 : Int)) else 1)
      else none)
def octet_Size : Int → Option (Int) := octet_Size_g LOOPx math_bits_Len64
theorem octet_Size_ok : FnOK Go.Proofs.Try.prog fn_octet_Size sg_octet_Size octet_Size := fn_of (P := Go.Proofs.Try.prog) (f := fn_octet_Size) (sg := sg_octet_Size) (sgs := [(fn_math_bits_Len64, sg_math_bits_Len64)]) (Gd := fun LP gs => octet_Size_g LP gs.1) (hn := []) (h := []) (math_bits_Len64, ()) ⟨math_bits_Len64_ok, trivial⟩ (by kernel_rfl) (by kernel_rfl)
abbrev fn_octet_wide : FuncId := 64
def sg_octet_wide : Sig := ⟨⟨[(0, .it .i64)], []⟩, [⟨[(0, .bo)], []⟩]⟩
def octet_wide_g (LP : LPT) : Int → Option (Bool) := fun x1 =>
  bif decide ((1 : Int) ≤ x1) then some (decide (x1 ≤ (8 : Int)))
  else some false
def octet_wide : Int → Option (Bool) := octet_wide_g LOOPx
theorem octet_wide_ok : FnOK Go.Proofs.Try.prog fn_octet_wide sg_octet_wide octet_wide := fn_of (P := Go.Proofs.Try.prog) (f := fn_octet_wide) (sg := sg_octet_wide) (sgs := []) (Gd := fun LP gs => octet_wide_g LP) (hn := []) (h := []) (()) trivial (by kernel_rfl) (by kernel_rfl)
abbrev fn_octet_Fits : FuncId := 65
def sg_octet_Fits : Sig := ⟨⟨[(0, .it .u64), (1, .it .i64)], []⟩, [⟨[(0, .bo)], []⟩]⟩
def octet_Fits_g (LP : LPT) (octet_Size : Int → Option (Int)) (octet_wide : Int → Option (Bool)) : (Int × Int) → Option (Bool) := fun (x1, x2) =>
  (octet_wide x2).bind fun x3 => 
    (bif x3 then 
        ((octet_Size x1).bind fun x4 => some (decide (x4 ≤ x2)))
    else some false)
def octet_Fits : (Int × Int) → Option (Bool) := octet_Fits_g LOOPx octet_Size octet_wide
theorem octet_Fits_ok : FnOK Go.Proofs.Try.prog fn_octet_Fits sg_octet_Fits octet_Fits := fn_of (P := Go.Proofs.Try.prog) (f := fn_octet_Fits) (sg := sg_octet_Fits) (sgs := [(fn_octet_Size, sg_octet_Size), (fn_octet_wide, sg_octet_wide)]) (Gd := fun LP gs => octet_Fits_g LP gs.1 gs.2.1) (hn := []) (h := []) (octet_Size, octet_wide, ()) ⟨octet_Size_ok, octet_wide_ok, trivial⟩ (by kernel_rfl) (by kernel_rfl)
abbrev fn_Clip_nil : FuncId := 66
def sg_Clip_nil : Sig := ⟨⟨[(0, .sn)], []⟩, [⟨[(0, .sn)], []⟩]⟩
def Clip_nil_g (LP : LPT) : Unit → Option (Unit) := fun _ =>
  bif (decide (0 ≤ 0) && decide (0 ≤ (0 : Int))) && ((decide (0 ≤ 0) && decide (0 ≤ ((0 : Int).toNat : Int))) && true) then some ()
    else none
def Clip_nil : Unit → Option (Unit) := Clip_nil_g LOOPx
theorem Clip_nil_ok : FnOK Go.Proofs.Try.prog fn_Clip_nil sg_Clip_nil Clip_nil := fn_of (P := Go.Proofs.Try.prog) (f := fn_Clip_nil) (sg := sg_Clip_nil) (sgs := []) (Gd := fun LP gs => Clip_nil_g LP) (hn := []) (h := []) (()) trivial (by kernel_rfl) (by kernel_rfl)
abbrev fn_Clip_byte : FuncId := 66
def sg_Clip_byte : Sig := ⟨⟨[(0, .vs 0 (.int .u8))], []⟩, [⟨[(0, .vs 2 (.int .u8))], []⟩]⟩
def Clip_byte_g (LP : LPT) : (List Int) → Option (List Int) := fun x1 =>
  bif (decide (0 ≤ (x1.length : Int)) && decide ((x1.length : Int) ≤ (x1.length : Int))) && ((decide (0 ≤ (x1.length : Int)) && decide ((x1.length : Int) ≤ ((x1.length : Int).toNat : Int))) && (decide ((x1.length : Int).toNat = (x1.length : Int).toNat) && (Nat.blt 0 x1.length))) then some ((x1.take ((x1.length : Int).toNat)).drop 0)
    else none
def Clip_byte : (List Int) → Option (List Int) := Clip_byte_g LOOPx
theorem Clip_byte_ok : FnOK Go.Proofs.Try.prog fn_Clip_byte sg_Clip_byte Clip_byte := fn_of (P := Go.Proofs.Try.prog) (f := fn_Clip_byte) (sg := sg_Clip_byte) (sgs := []) (Gd := fun LP gs => Clip_byte_g LP) (hn := []) (h := []) (()) trivial (by kernel_rfl) (by kernel_rfl)
abbrev fn_octet_Put : FuncId := 39
def sg_octet_Put : Sig := ⟨⟨[(0, .vs 0 (.int .u8)), (1, .it .u64), (2, .it .i64)], []⟩, [⟨[(0, .gr 0), (1, .it .i64)], [.gs false (.int .u8)]⟩]⟩
def octet_Put_g (LP : LPT) (octet_wide : Int → Option (Bool)) (octet_Fits : (Int × Int) → Option (Bool)) (Clip_byte : (List Int) → Option (List Int)) : ((List Int) × Int × Int) → Option (Int × List Int) := fun (x1, x2, x3) =>
  (octet_wide x3).bind fun x4 => 
    (bif !x4 then some (1, [])
    else 
      ((octet_Fits (x2, x3)).bind fun x5 => 
        (bif !x5 then some (4, [])
        else 
          ((Clip_byte x1).bind fun x6 => 
            (LP ((Int × Int × Int) × List Int) (Int × List Int) (fun ((x7, x8, x9), x10) =>
              bif decide (x9 < x8) then 
                  (bif decide (0 ≤ (IntKind.u64.wrap (IntKind.i64.wrap (x9 * (8 : Int))))) then 
                    (bif decide ((x10.length + ([IntKind.u8.wrap (x7.fdiv (2 ^ (min (IntKind.u64.wrap (IntKind.i64.wrap (x9 * (8 : Int)))).toNat IntKind.u64.bits)))]).length) * 1 ≤ 140737488355328) then some (.inl ((x7, x8, IntKind.i64.wrap (x9 + (1 : Int))), x10 ++ ([IntKind.u8.wrap (x7.fdiv (2 ^ (min (IntKind.u64.wrap (IntKind.i64.wrap (x9 * (8 : Int)))).toNat IntKind.u64.bits)))])))
                      else none)
                    else none)
              else some (.inr (0, x10)))
              ((x2, x3, 0), x6))))))
def octet_Put : ((List Int) × Int × Int) → Option (Int × List Int) := octet_Put_g LOOPx octet_wide octet_Fits Clip_byte
theorem octet_Put_ok : FnOK Go.Proofs.Try.prog fn_octet_Put sg_octet_Put octet_Put := fn_of (P := Go.Proofs.Try.prog) (f := fn_octet_Put) (sg := sg_octet_Put) (sgs := [(fn_octet_wide, sg_octet_wide), (fn_octet_Fits, sg_octet_Fits), (fn_Clip_byte, sg_Clip_byte)]) (Gd := fun LP gs => octet_Put_g LP gs.1 gs.2.1 gs.2.2.1) (hn := []) (h := [(23, false, ⟨[(1, .it .u64), (8, .gr 0), (21, .it .i64), (22, .it .i64)], [.gs false (.int .u8)]⟩)]) (octet_wide, octet_Fits, Clip_byte, ()) ⟨octet_wide_ok, octet_Fits_ok, Clip_byte_ok, trivial⟩ (by kernel_rfl) (by kernel_rfl)
abbrev fn_octet_Cut : FuncId := 80
def sg_octet_Cut : Sig := ⟨⟨[(0, .vs 1 (.int .u8)), (1, .it .i64), (2, .it .i64)], []⟩, [⟨[(0, .vs 2 (.int .u8)), (1, .it .i64), (2, .it .i64)], []⟩]⟩
def octet_Cut_g (LP : LPT) : ((List Int) × Int × Int) → Option ((List Int) × Int × Int) := fun (x1, x2, x3) =>
  bif !(decide (x2 < (0 : Int))) then 
      (bif !(decide ((x1.length : Int) < x2)) then 
          (bif decide (x3 < (0 : Int)) then some ([], 0, 1)
          else 
            (bif decide ((IntKind.i64.wrap ((x1.length : Int) - x2)) < x3) then some ([], 0, 2)
            else 
              (bif (decide (0 ≤ IntKind.i64.wrap (x2 + x3)) && decide (IntKind.i64.wrap (x2 + x3) ≤ (x1.length : Int))) && ((decide (0 ≤ IntKind.i64.wrap (x2 + x3)) && decide (IntKind.i64.wrap (x2 + x3) ≤ ((IntKind.i64.wrap (x2 + x3)).toNat : Int))) && ((decide (0 ≤ x2) && decide (x2 ≤ ((IntKind.i64.wrap (x2 + x3)).toNat : Int))) && (decide ((IntKind.i64.wrap (x2 + x3)).toNat = (IntKind.i64.wrap (x2 + x3)).toNat) && true))) then some ((x1.take ((IntKind.i64.wrap (x2 + x3)).toNat)).drop x2.toNat, IntKind.i64.wrap (x2 + x3), 0)
                else none)))
      else some ([], 0, 1))
  else some ([], 0, 1)
def octet_Cut : ((List Int) × Int × Int) → Option ((List Int) × Int × Int) := octet_Cut_g LOOPx
theorem octet_Cut_ok : FnOK Go.Proofs.Try.prog fn_octet_Cut sg_octet_Cut octet_Cut := fn_of (P := Go.Proofs.Try.prog) (f := fn_octet_Cut) (sg := sg_octet_Cut) (sgs := []) (Gd := fun LP gs => octet_Cut_g LP) (hn := []) (h := []) (()) trivial (by kernel_rfl) (by kernel_rfl)
abbrev fn_octet_Cut0 : FuncId := 80
def sg_octet_Cut0 : Sig := ⟨⟨[(0, .vs 0 (.int .u8)), (1, .it .i64), (2, .it .i64)], []⟩, [⟨[(0, .vs 2 (.int .u8)), (1, .it .i64), (2, .it .i64)], []⟩]⟩
def octet_Cut0_g (LP : LPT) : ((List Int) × Int × Int) → Option ((List Int) × Int × Int) := fun (x1, x2, x3) =>
  bif !(decide (x2 < (0 : Int))) then 
      (bif !(decide ((x1.length : Int) < x2)) then 
          (bif decide (x3 < (0 : Int)) then some ([], 0, 1)
          else 
            (bif decide ((IntKind.i64.wrap ((x1.length : Int) - x2)) < x3) then some ([], 0, 2)
            else 
              (bif (decide (0 ≤ IntKind.i64.wrap (x2 + x3)) && decide (IntKind.i64.wrap (x2 + x3) ≤ (x1.length : Int))) && ((decide (0 ≤ IntKind.i64.wrap (x2 + x3)) && decide (IntKind.i64.wrap (x2 + x3) ≤ ((IntKind.i64.wrap (x2 + x3)).toNat : Int))) && ((decide (0 ≤ x2) && decide (x2 ≤ ((IntKind.i64.wrap (x2 + x3)).toNat : Int))) && (decide ((IntKind.i64.wrap (x2 + x3)).toNat = (IntKind.i64.wrap (x2 + x3)).toNat) && (Nat.blt 0 x1.length)))) then some ((x1.take ((IntKind.i64.wrap (x2 + x3)).toNat)).drop x2.toNat, IntKind.i64.wrap (x2 + x3), 0)
                else none)))
      else some ([], 0, 1))
  else some ([], 0, 1)
def octet_Cut0 : ((List Int) × Int × Int) → Option ((List Int) × Int × Int) := octet_Cut0_g LOOPx
theorem octet_Cut0_ok : FnOK Go.Proofs.Try.prog fn_octet_Cut0 sg_octet_Cut0 octet_Cut0 := fn_of (P := Go.Proofs.Try.prog) (f := fn_octet_Cut0) (sg := sg_octet_Cut0) (sgs := []) (Gd := fun LP gs => octet_Cut0_g LP) (hn := []) (h := []) (()) trivial (by kernel_rfl) (by kernel_rfl)
abbrev fn_octet_Take : FuncId := 79
def sg_octet_Take : Sig := ⟨⟨[(0, .vs 1 (.int .u8)), (1, .it .i64), (2, .it .i64)], []⟩, [⟨[(0, .it .u64), (1, .it .i64), (2, .it .i64)], []⟩]⟩
def octet_Take_g (LP : LPT) (octet_wide : Int → Option (Bool)) (octet_Cut : ((List Int) × Int × Int) → Option ((List Int) × Int × Int)) : ((List Int) × Int × Int) → Option (Int × Int × Int) := fun (x1, x2, x3) =>
  (octet_wide x3).bind fun x4 => 
    (bif !x4 then some (0, 0, 1)
    else 
      ((octet_Cut (x1, x2, x3)).bind fun (x5, x6, x7) => 
        (LP (Int × Int × Int × (List Int) × Int × Int) (Int × Int × Int) (fun (x8, x9, x10, x11, x12, x13) =>
          bif decide (x13 < x12) then 
              (bif decide (0 ≤ x13) && decide (x13 < (x11.length : Int)) then 
                (bif decide (0 ≤ (IntKind.u64.wrap (IntKind.i64.wrap (x13 * (8 : Int))))) then some (.inl (Go.bits .or IntKind.u64 x8 (IntKind.u64.wrap ((IntKind.u64.wrap (Ty.at (.int .u8) x11 x13.toNat)) * 2 ^ (min (IntKind.u64.wrap (IntKind.i64.wrap (x13 * (8 : Int)))).toNat IntKind.u64.bits))), x9, x10, x11, x12, IntKind.i64.wrap (x13 + (1 : Int))))
                  else none)
                else none)
          else some (.inr (x8, x9, x10)))
          (0, x6, x7, x5, (x5.length : Int), 0))))
def octet_Take : ((List Int) × Int × Int) → Option (Int × Int × Int) := octet_Take_g LOOPx octet_wide octet_Cut
theorem octet_Take_ok : FnOK Go.Proofs.Try.prog fn_octet_Take sg_octet_Take octet_Take := fn_of (P := Go.Proofs.Try.prog) (f := fn_octet_Take) (sg := sg_octet_Take) (sgs := [(fn_octet_wide, sg_octet_wide), (fn_octet_Cut, sg_octet_Cut)]) (Gd := fun LP gs => octet_Take_g LP gs.1 gs.2.1) (hn := []) (h := [(16, false, ⟨[(6, .it .u64), (7, .it .i64), (8, .it .i64), (23, .vs 2 (.int .u8)), (24, .it .i64), (25, .it .i64)], []⟩)]) (octet_wide, octet_Cut, ()) ⟨octet_wide_ok, octet_Cut_ok, trivial⟩ (by kernel_rfl) (by kernel_rfl)
abbrev fn_varint_Append_nil : FuncId := 62
def sg_varint_Append_nil : Sig := ⟨⟨[(0, .sn), (1, .it .u64)], []⟩, [⟨[(0, .gr 0)], [.gs true (.int .u8)]⟩]⟩
def varint_Append_nil_g (LP : LPT) (Clip_nil : Unit → Option (Unit)) : Int → Option (List Int) := fun x1 =>
  (Clip_nil ()).bind fun _ => 
    (LP (Int × List Int) (List Int) (fun (x2, x3) =>
      bif decide ((128 : Int) ≤ x2) then 
          (bif decide ((x3.length + ([Go.bits .or IntKind.u8 (IntKind.u8.wrap x2) (128 : Int)]).length) * 1 ≤ 140737488355328) then 
            (bif decide (0 ≤ (7 : Int)) then some (.inl (x2.fdiv (2 ^ (min (7 : Int).toNat IntKind.u64.bits)), x3 ++ ([Go.bits .or IntKind.u8 (IntKind.u8.wrap x2) (128 : Int)])))
              else none)
            else none)
      else 
        (inR (bif decide ((x3.length + ([IntKind.u8.wrap x2]).length) * 1 ≤ 140737488355328) then some (x3 ++ ([IntKind.u8.wrap x2]))
            else none)))
      (x1, []))
def varint_Append_nil : Int → Option (List Int) := varint_Append_nil_g LOOPx Clip_nil
theorem varint_Append_nil_ok : FnOK Go.Proofs.Try.prog fn_varint_Append_nil sg_varint_Append_nil varint_Append_nil := fn_of (P := Go.Proofs.Try.prog) (f := fn_varint_Append_nil) (sg := sg_varint_Append_nil) (sgs := [(fn_Clip_nil, sg_Clip_nil)]) (Gd := fun LP gs => varint_Append_nil_g LP gs.1) (hn := []) (h := [(6, false, ⟨[(1, .it .u64), (5, .gr 0)], [.gs true (.int .u8)]⟩)]) (Clip_nil, ()) ⟨Clip_nil_ok, trivial⟩ (by kernel_rfl) (by kernel_rfl)
abbrev fn_varint_Append : FuncId := 62
def sg_varint_Append : Sig := ⟨⟨[(0, .vs 0 (.int .u8)), (1, .it .u64)], []⟩, [⟨[(0, .gr 0)], [.gs true (.int .u8)]⟩]⟩
def varint_Append_g (LP : LPT) (Clip_byte : (List Int) → Option (List Int)) : ((List Int) × Int) → Option (List Int) := fun (x1, x2) =>
  (Clip_byte x1).bind fun x3 => 
    (LP (Int × List Int) (List Int) (fun (x4, x5) =>
      bif decide ((128 : Int) ≤ x4) then 
          (bif decide ((x5.length + ([Go.bits .or IntKind.u8 (IntKind.u8.wrap x4) (128 : Int)]).length) * 1 ≤ 140737488355328) then 
            (bif decide (0 ≤ (7 : Int)) then some (.inl (x4.fdiv (2 ^ (min (7 : Int).toNat IntKind.u64.bits)), x5 ++ ([Go.bits .or IntKind.u8 (IntKind.u8.wrap x4) (128 : Int)])))
              else none)
            else none)
      else 
        (inR (bif decide ((x5.length + ([IntKind.u8.wrap x4]).length) * 1 ≤ 140737488355328) then some (x5 ++ ([IntKind.u8.wrap x4]))
            else none)))
      (x2, x3))
def varint_Append : ((List Int) × Int) → Option (List Int) := varint_Append_g LOOPx Clip_byte
theorem varint_Append_ok : FnOK Go.Proofs.Try.prog fn_varint_Append sg_varint_Append varint_Append := fn_of (P := Go.Proofs.Try.prog) (f := fn_varint_Append) (sg := sg_varint_Append) (sgs := [(fn_Clip_byte, sg_Clip_byte)]) (Gd := fun LP gs => varint_Append_g LP gs.1) (hn := []) (h := [(6, false, ⟨[(1, .it .u64), (5, .gr 0)], [.gs false (.int .u8)]⟩)]) (Clip_byte, ()) ⟨Clip_byte_ok, trivial⟩ (by kernel_rfl) (by kernel_rfl)
abbrev fn_varint_Read : FuncId := 102
def sg_varint_Read : Sig := ⟨⟨[(0, .vs 0 (.int .u8)), (1, .it .i64)], []⟩, [⟨[(0, .it .u64), (1, .it .i64), (2, .it .i64)], []⟩]⟩
def varint_Read_g (LP : LPT) : ((List Int) × Int) → Option (Int × Int × Int) := fun (x1, x2) =>
  bif !(decide (x2 < (0 : Int))) then 
      (bif decide ((x1.length : Int) < x2) then some (0, 0, 1)
      else 
        (bif decide (0 ≤ x2) && decide (x2 ≤ (x1.length : Int)) then 
          (LP (Int × Int × (List Int) × Int × Int) (Int × Int × Int) (fun (x3, x4, x5, x6, x7) =>
            bif decide (x7 < x6) then 
                (bif decide (0 ≤ x7) && decide (x7 < (x5.length : Int)) then 
                  (Option.bind (α := (Int × Int × Int × Int × (List Int) × Int × Int) ⊕ ((Int × Int × (List Int) × Int × Int) ⊕ (Int × Int × Int))) (β := (Int × Int × (List Int) × Int × Int) ⊕ (Int × Int × Int)) (bif decide (x7 = (9 : Int)) then 
                        (bif decide ((1 : Int) < (Ty.at (.int .u8) x5 x7.toNat)) then some (.inr (.inr (0, 0, 4)))
                        else some (.inl (x3, x4, x7, Ty.at (.int .u8) x5 x7.toNat, x5, x6, x7)))
                    else some (.inl (x3, x4, x7, Ty.at (.int .u8) x5 x7.toNat, x5, x6, x7)))
                    fun z => match z with
                    | .inl (x8, x9, x10, x11, x12, x13, x14) => bif decide (0 ≤ (IntKind.u64.wrap (IntKind.i64.wrap (x10 * (7 : Int))))) then 
                        (bif decide (x11 < (128 : Int)) then 
                            (bif decide (x11 = (0 : Int)) then 
                                (bif decide ((0 : Int) < x10) then some (.inr (0, 0, 3))
                                else some (.inr (Go.bits .or IntKind.u64 x9 (IntKind.u64.wrap ((IntKind.u64.wrap (Go.bits .and IntKind.u8 x11 (127 : Int))) * 2 ^ (min (IntKind.u64.wrap (IntKind.i64.wrap (x10 * (7 : Int)))).toNat IntKind.u64.bits))), IntKind.i64.wrap ((IntKind.i64.wrap (x8 + x10)) + (1 : Int)), 0)))
                            else some (.inr (Go.bits .or IntKind.u64 x9 (IntKind.u64.wrap ((IntKind.u64.wrap (Go.bits .and IntKind.u8 x11 (127 : Int))) * 2 ^ (min (IntKind.u64.wrap (IntKind.i64.wrap (x10 * (7 : Int)))).toNat IntKind.u64.bits))), IntKind.i64.wrap ((IntKind.i64.wrap (x8 + x10)) + (1 : Int)), 0)))
                        else some (.inl (x8, Go.bits .or IntKind.u64 x9 (IntKind.u64.wrap ((IntKind.u64.wrap (Go.bits .and IntKind.u8 x11 (127 : Int))) * 2 ^ (min (IntKind.u64.wrap (IntKind.i64.wrap (x10 * (7 : Int)))).toNat IntKind.u64.bits))), x12, x13, IntKind.i64.wrap (x14 + (1 : Int)))))
                        else none
                    | .inr o => some o)
                  else none)
            else some (.inr (0, 0, 2)))
            (x2, 0, (x1.take x1.length).drop x2.toNat, (((x1.take x1.length).drop x2.toNat).length : Int), 0))
          else none))
  else some (0, 0, 1)
def varint_Read : ((List Int) × Int) → Option (Int × Int × Int) := varint_Read_g LOOPx
theorem varint_Read_ok : FnOK Go.Proofs.Try.prog fn_varint_Read sg_varint_Read varint_Read := fn_of (P := Go.Proofs.Try.prog) (f := fn_varint_Read) (sg := sg_varint_Read) (sgs := []) (Gd := fun LP gs => varint_Read_g LP) (hn := []) (h := [(14, false, ⟨[(1, .it .i64), (4, .it .u64), (19, .vs 0 (.int .u8)), (20, .it .i64), (21, .it .i64)], []⟩), (26, true, ⟨[(1, .it .i64), (4, .it .u64), (7, .it .i64), (8, .it .u8), (19, .vs 0 (.int .u8)), (20, .it .i64), (21, .it .i64)], []⟩)]) (()) trivial (by kernel_rfl) (by kernel_rfl)
abbrev fn_Clone_byte : FuncId := 31
def sg_Clone_byte : Sig := sgClone (.int .u8)
def Clone_byte : (List Int) → Option (List Int) := cloneG (.int .u8) 1
theorem Clone_byte_ok : FnOK Go.Proofs.Try.prog fn_Clone_byte sg_Clone_byte Clone_byte := clone_ok (.int .u8) 1 (by kernel_rfl) (by kernel_rfl) (by kernel_rfl)
abbrev fn_torporref03_down : FuncId := 85
def sg_torporref03_down : Sig := ⟨⟨[(0, .it .u32)], []⟩, [⟨[(0, .it .u32)], []⟩]⟩
def torporref03_down_g (LP : LPT) : Int → Option (Int) := fun x1 =>
  LP (Int × Int) (Int) (fun (x2, x3) =>
    bif decide (x3 < (8 : Int)) then 
        (bif !decide ((2 : Int) = 0) then 
          (bif !decide ((2 : Int) = 0) then 
            (bif decide ((x2.tmod (2 : Int)) = (1 : Int)) then some (.inl (Go.bits .xor IntKind.u32 (IntKind.u32.wrap (x2.tdiv (2 : Int))) (3988292384 : Int), IntKind.i64.wrap (x3 + (1 : Int))))
            else some (.inl (IntKind.u32.wrap (x2.tdiv (2 : Int)), IntKind.i64.wrap (x3 + (1 : Int)))))
            else none)
          else none)
    else some (.inr x2))
    (x1, 0)
def torporref03_down : Int → Option (Int) := torporref03_down_g LOOPx
theorem torporref03_down_ok : FnOK Go.Proofs.Try.prog fn_torporref03_down sg_torporref03_down torporref03_down := fn_of (P := Go.Proofs.Try.prog) (f := fn_torporref03_down) (sg := sg_torporref03_down) (sgs := []) (Gd := fun LP gs => torporref03_down_g LP) (hn := []) (h := [(6, false, ⟨[(0, .it .u32), (3, .it .i64)], []⟩)]) (()) trivial (by kernel_rfl) (by kernel_rfl)
abbrev fn_torporref03_Go : FuncId := 59
def sg_torporref03_Go : Sig := ⟨⟨[(0, .it .u32), (1, .vs 0 (.int .u8))], []⟩, [⟨[(0, .it .u32)], []⟩]⟩
def torporref03_Go_g (LP : LPT) (torporref03_down : Int → Option (Int)) : (Int × List Int) → Option (Int) := fun (x1, x2) =>
  LP (Int × (List Int) × Int) (Int) (fun (x3, x4, x5) =>
    bif decide (x5 < (x4.length : Int)) then 
        (bif decide (0 ≤ x5) && decide (x5 < (x4.length : Int)) then 
          ((torporref03_down (Go.bits .xor IntKind.u32 x3 (IntKind.u32.wrap (Ty.at (.int .u8) x4 x5.toNat)))).bind fun x6 => some (.inl (x6, x4, IntKind.i64.wrap (x5 + (1 : Int)))))
          else none)
    else some (.inr x3))
    (x1, x2, 0)
def torporref03_Go : (Int × List Int) → Option (Int) := torporref03_Go_g LOOPx torporref03_down
theorem torporref03_Go_ok : FnOK Go.Proofs.Try.prog fn_torporref03_Go sg_torporref03_Go torporref03_Go := fn_of (P := Go.Proofs.Try.prog) (f := fn_torporref03_Go) (sg := sg_torporref03_Go) (sgs := [(fn_torporref03_down, sg_torporref03_down)]) (Gd := fun LP gs => torporref03_Go_g LP gs.1) (hn := []) (h := [(6, false, ⟨[(0, .it .u32), (1, .vs 0 (.int .u8)), (5, .it .i64)], []⟩)]) (torporref03_down, ()) ⟨torporref03_down_ok, trivial⟩ (by kernel_rfl) (by kernel_rfl)
abbrev fn_torporref03_Sum : FuncId := 32
def sg_torporref03_Sum : Sig := ⟨⟨[(0, .vs 0 (.int .u8))], []⟩, [⟨[(0, .it .u32)], []⟩]⟩
def torporref03_Sum_g (LP : LPT) (torporref03_Go : (Int × List Int) → Option (Int)) : (List Int) → Option (Int) := fun x1 =>
  (torporref03_Go (4294967295, x1)).bind fun x2 => some (IntKind.u32.wrap ((4294967295 : Int) - x2))
def torporref03_Sum : (List Int) → Option (Int) := torporref03_Sum_g LOOPx torporref03_Go
theorem torporref03_Sum_ok : FnOK Go.Proofs.Try.prog fn_torporref03_Sum sg_torporref03_Sum torporref03_Sum := fn_of (P := Go.Proofs.Try.prog) (f := fn_torporref03_Sum) (sg := sg_torporref03_Sum) (sgs := [(fn_torporref03_Go, sg_torporref03_Go)]) (Gd := fun LP gs => torporref03_Sum_g LP gs.1) (hn := []) (h := []) (torporref03_Go, ()) ⟨torporref03_Go_ok, trivial⟩ (by kernel_rfl) (by kernel_rfl)
abbrev sg_crc_Sum : Sig := sgCrcSum
def crc_Sum : (List Int) → Option (Int) := crcG
theorem crc_Sum_ok : FnOK Go.Proofs.Try.prog fn_crc_Sum sg_crc_Sum crc_Sum := crcSum_ok
abbrev fn_Grow_byte : FuncId := 104
def sg_Grow_byte : Sig := ⟨⟨[(0, .sn), (1, .it .i64)], []⟩, [⟨[(0, .gr 0)], [.gs true (.int .u8)]⟩]⟩
def Grow_byte_g (LP : LPT) : Int → Option (List Int) := fun x1 =>
  bif decide (x1 < (0 : Int)) then none
  else 
    (bif decide ((0 : Int) < (IntKind.i64.wrap (x1 - (IntKind.i64.wrap ((0 : Int) - (0 : Int)))))) then 
        (bif (decide (0 ≤ 0) && decide (0 ≤ (0 : Int))) && true then 
          (bif decide (0 ≤ IntKind.i64.wrap (x1 - (IntKind.i64.wrap ((0 : Int) - (0 : Int))))) && (decide (IntKind.i64.wrap (x1 - (IntKind.i64.wrap ((0 : Int) - (0 : Int)))) ≤ 9223372036854775807) && decide ((IntKind.i64.wrap (x1 - (IntKind.i64.wrap ((0 : Int) - (0 : Int))))).toNat * 1 ≤ 140737488355328)) then 
            (bif decide (0 ≤ 0) && decide (0 ≤ ((List.replicate (IntKind.i64.wrap (x1 - (IntKind.i64.wrap ((0 : Int) - (0 : Int))))).toNat (0 : Int)).length : Int)) then some ((List.replicate (IntKind.i64.wrap (x1 - (IntKind.i64.wrap ((0 : Int) - (0 : Int))))).toNat (0 : Int)).take (0 : Int).toNat)
              else none)
            else none)
          else none)
    else some ([]))
def Grow_byte : Int → Option (List Int) := Grow_byte_g LOOPx
theorem Grow_byte_ok : FnOK Go.Proofs.Try.prog fn_Grow_byte sg_Grow_byte Grow_byte := fn_of (P := Go.Proofs.Try.prog) (f := fn_Grow_byte) (sg := sg_Grow_byte) (sgs := []) (Gd := fun LP gs => Grow_byte_g LP) (hn := [(25, .int .u8)]) (h := []) (()) trivial (by kernel_rfl) (by kernel_rfl)
abbrev fn_Concat_byte : FuncId := 87
def sg_Concat_byte : Sig := ⟨⟨[(0, .vs 0 (.sl (.int .u8)))], []⟩, [⟨[(0, .gr 0)], [.gs true (.int .u8)]⟩]⟩
def Concat_byte_g (LP : LPT) (Grow_byte : Int → Option (List Int)) : (List (List Int)) → Option (List Int) := fun x1 =>
  Option.bind (α := ((List (List Int)) × Int) ⊕ (List Int)) (β := List Int) (LP ((List (List Int)) × Int × (List (List Int)) × Int × Int) (((List (List Int)) × Int) ⊕ (List Int)) (fun (x2, x3, x4, x5, x6) =>
      bif decide (x6 < x5) then 
          (bif decide (0 ≤ x6) && decide (x6 < (x4.length : Int)) then 
            (bif decide ((IntKind.i64.wrap (x3 + ((Ty.at (.sl (.int .u8)) x4 x6.toNat).length : Int))) < (0 : Int)) then none
            else some (.inl (x2, IntKind.i64.wrap (x3 + ((Ty.at (.sl (.int .u8)) x4 x6.toNat).length : Int)), x4, x5, IntKind.i64.wrap (x6 + (1 : Int)))))
            else none)
      else some (.inr (.inl (x2, x3))))
      (x1, 0, x1, (x1.length : Int), 0))
    fun z => match z with
    | .inl (x7, x8) => (Grow_byte x8).bind fun x9 => 
        (LP (((List (List Int)) × Int × Int) × List Int) (List Int) (fun ((x10, x11, x12), x13) =>
          bif decide (x12 < x11) then 
              (bif decide (0 ≤ x12) && decide (x12 < (x10.length : Int)) then 
                (bif decide ((x13.length + (Ty.at (.sl (.int .u8)) x10 x12.toNat).length) * 1 ≤ 140737488355328) then some (.inl ((x10, x11, IntKind.i64.wrap (x12 + (1 : Int))), x13 ++ (Ty.at (.sl (.int .u8)) x10 x12.toNat)))
                  else none)
                else none)
          else some (.inr x13))
          ((x7, (x7.length : Int), 0), x9))
    | .inr o => some o
def Concat_byte : (List (List Int)) → Option (List Int) := Concat_byte_g LOOPx Grow_byte
theorem Concat_byte_ok : FnOK Go.Proofs.Try.prog fn_Concat_byte sg_Concat_byte Concat_byte := fn_of (P := Go.Proofs.Try.prog) (f := fn_Concat_byte) (sg := sg_Concat_byte) (sgs := [(fn_Grow_byte, sg_Grow_byte)]) (Gd := fun LP gs => Concat_byte_g LP gs.1) (hn := []) (h := [(5, true, ⟨[(0, .vs 0 (.sl (.int .u8))), (3, .it .i64)], []⟩), (8, false, ⟨[(0, .vs 0 (.sl (.int .u8))), (3, .it .i64), (9, .vs 0 (.sl (.int .u8))), (10, .it .i64), (11, .it .i64)], []⟩), (33, false, ⟨[(6, .gr 0), (25, .vs 0 (.sl (.int .u8))), (26, .it .i64), (27, .it .i64)], [.gs true (.int .u8)]⟩)]) (Grow_byte, ()) ⟨Grow_byte_ok, trivial⟩ (by kernel_rfl) (by kernel_rfl)
abbrev fn_torporref04_Append : FuncId := 71
def sg_torporref04_Append : Sig := ⟨⟨[(0, .vs 0 (.int .u8)), (1, .ag [.it .u8, .vs 0 (.int .u8)])], []⟩, [⟨[(0, .gr 0), (1, .it .i64)], [.gs true (.int .u8)]⟩]⟩
def torporref04_Append_g (LP : LPT) (torporref01_Put : ((List Int) × Int × Int) → Option (Int × List Int)) (torporref02_Append : ((List Int) × Int) → Option (List Int)) (torporref03_Sum : (List Int) → Option (Int)) : ((List Int) × Int × List Int) → Option (Int × List Int) := fun (x1, x2, x3) =>
  bif decide (x2 = (0 : Int)) then some (3, [])
  else 
    (bif decide ((65535 : Int) < (x3.length : Int)) then some (4, [])
    else 
      ((torporref02_Append ([x2], IntKind.u64.wrap (x3.length : Int))).bind fun x4 => 
        (bif decide ((x4.length + x3.length) * 1 ≤ 140737488355328) then 
          ((torporref03_Sum (x4 ++ x3)).bind fun x5 => 
            ((torporref01_Put (x4 ++ x3, IntKind.u64.wrap x5, 4)).bind fun (x6, x7) => 
              (bif decide ((([] : List Int).length + x1.length) * 1 ≤ 140737488355328) then 
                (bif decide (((([] : List Int) ++ x1).length + x7.length) * 1 ≤ 140737488355328) then some (0, (([] : List Int) ++ x1) ++ x7)
                  else none)
                else none)))
          else none)))
def torporref04_Append : ((List Int) × Int × List Int) → Option (Int × List Int) := torporref04_Append_g LOOPx torporref01_Put torporref02_Append torporref03_Sum
theorem torporref04_Append_ok : FnOK Go.Proofs.Try.prog fn_torporref04_Append sg_torporref04_Append torporref04_Append := fn_of (P := Go.Proofs.Try.prog) (f := fn_torporref04_Append) (sg := sg_torporref04_Append) (sgs := [(fn_torporref01_Put, sg_torporref01_Put), (fn_torporref02_Append, sg_torporref02_Append), (fn_torporref03_Sum, sg_torporref03_Sum)]) (Gd := fun LP gs => torporref04_Append_g LP gs.1 gs.2.1 gs.2.2.1) (hn := []) (h := []) (torporref01_Put, torporref02_Append, torporref03_Sum, ()) ⟨torporref01_Put_ok, torporref02_Append_ok, torporref03_Sum_ok, trivial⟩ (by kernel_rfl) (by kernel_rfl)
abbrev fn_torporref04_Read : FuncId := 81
def sg_torporref04_Read : Sig := ⟨⟨[(0, .vs 0 (.int .u8)), (1, .it .i64)], []⟩, [⟨[(0, .ag [.it .u8, .gr 0]), (1, .it .i64), (2, .it .i64)], [.gs true (.int .u8)]⟩]⟩
def torporref04_Read_g (LP : LPT) (torporref01_Cut : ((List Int) × Int × Int) → Option ((Int × Int) × List Int)) (torporref01_Take : ((List Int) × Int × Int) → Option (Int × Int × Int)) (torporref02_Read : ((List Int) × Int) → Option (Int × Int × Int)) (torporref03_Sum : (List Int) → Option (Int)) : ((List Int) × Int) → Option ((Int × Int × Int) × List Int) := fun (x1, x2) =>
  bif !(decide (x2 < (0 : Int))) then 
      (bif decide ((x1.length : Int) < x2) then some ((0, 0, 1), [])
      else 
        (bif decide (x2 = (x1.length : Int)) then some ((0, 0, 2), [])
        else 
          (bif decide (0 ≤ x2) && decide (x2 < (x1.length : Int)) then 
            (bif decide ((Ty.at (.int .u8) x1 x2.toNat) = (0 : Int)) then some ((0, 0, 3), [])
            else 
              ((torporref02_Read (x1, IntKind.i64.wrap (x2 + (1 : Int)))).bind fun (x3, x4, x5) => 
                (bif !decide (x5 = (0 : Int)) then some ((0, 0, x5), [])
                else 
                  (bif decide ((65535 : Int) < x3) then some ((0, 0, 4), [])
                  else 
                    ((torporref01_Cut (x1, x4, IntKind.i64.wrap x3)).bind fun ((x6, x7), x8) => 
                      (bif !decide (x7 = (0 : Int)) then some ((0, 0, x7), [])
                      else 
                        ((torporref01_Take (x1, x6, 4)).bind fun (x9, x10, x11) => 
                          (bif !decide (x11 = (0 : Int)) then some ((0, 0, x11), [])
                          else 
                            (bif (decide (0 ≤ x6) && decide (x6 ≤ (x1.length : Int))) && (decide (0 ≤ x2) && decide (x2 ≤ (x6.toNat : Int))) then 
                              ((torporref03_Sum ((x1.take x6.toNat).drop x2.toNat)).bind fun x12 => 
                                (bif !decide ((IntKind.u64.wrap x12) = x9) then some ((0, 0, 5), [])
                                else 
                                  (bif decide (0 ≤ x2) && decide (x2 < (x1.length : Int)) then some ((Ty.at (.int .u8) x1 x2.toNat, x10, 0), x8)
                                    else none)))
                              else none)))))))))
            else none)))
  else some ((0, 0, 1), [])
def torporref04_Read : ((List Int) × Int) → Option ((Int × Int × Int) × List Int) := torporref04_Read_g LOOPx torporref01_Cut torporref01_Take torporref02_Read torporref03_Sum
theorem torporref04_Read_ok : FnOK Go.Proofs.Try.prog fn_torporref04_Read sg_torporref04_Read torporref04_Read := fn_of (P := Go.Proofs.Try.prog) (f := fn_torporref04_Read) (sg := sg_torporref04_Read) (sgs := [(fn_torporref01_Cut, sg_torporref01_Cut), (fn_torporref01_Take, sg_torporref01_Take), (fn_torporref02_Read, sg_torporref02_Read), (fn_torporref03_Sum, sg_torporref03_Sum)]) (Gd := fun LP gs => torporref04_Read_g LP gs.1 gs.2.1 gs.2.2.1 gs.2.2.2.1) (hn := []) (h := []) (torporref01_Cut, torporref01_Take, torporref02_Read, torporref03_Sum, ()) ⟨torporref01_Cut_ok, torporref01_Take_ok, torporref02_Read_ok, torporref03_Sum_ok, trivial⟩ (by kernel_rfl) (by kernel_rfl)
abbrev fn_torporref04_All : FuncId := 43
def sg_torporref04_All : Sig := ⟨⟨[(0, .vs 0 (.pr (.int .u8) (.sl (.int .u8))))], []⟩, [⟨[(0, .gr 0), (1, .it .i64)], [.gs true (.int .u8)]⟩]⟩
def torporref04_All_g (LP : LPT) (torporref04_Append : ((List Int) × Int × List Int) → Option (Int × List Int)) : (List (Int × List Int)) → Option (Int × List Int) := fun x1 =>
  LP (((List (Int × List Int)) × Int) × List Int) (Int × List Int) (fun ((x2, x3), x4) =>
    bif decide (x3 < (x2.length : Int)) then 
        (Option.bind (α := (((List (Int × List Int)) × Int) × List Int) ⊕ ((((List (Int × List Int)) × Int) × List Int) ⊕ (Int × List Int))) (β := (((List (Int × List Int)) × Int) × List Int) ⊕ (Int × List Int)) (bif decide (0 ≤ x3) && decide (x3 < (x2.length : Int)) then 
            (bif !(decide (((Ty.at (.pr (.int .u8) (.sl (.int .u8))) x2 x3.toNat).1) = (0 : Int))) then 
                (bif decide ((0 : Int) < x3) then 
                    (bif decide (0 ≤ x3) && decide (x3 < (x2.length : Int)) then 
                      (bif decide (0 ≤ IntKind.i64.wrap (x3 - (1 : Int))) && decide (IntKind.i64.wrap (x3 - (1 : Int)) < (x2.length : Int)) then 
                        (bif decide (((Ty.at (.pr (.int .u8) (.sl (.int .u8))) x2 x3.toNat).1) ≤ ((Ty.at (.pr (.int .u8) (.sl (.int .u8))) x2 ((IntKind.i64.wrap (x3 - (1 : Int))).toNat)).1)) then some (.inr (.inr (3, [])))
                        else some (.inl ((x2, x3), x4)))
                        else none)
                      else none)
                else some (.inl ((x2, x3), x4)))
            else some (.inr (.inr (3, []))))
            else none)
          fun z => match z with
          | .inl ((x5, x6), x7) => bif decide (0 ≤ x6) && decide (x6 < (x5.length : Int)) then 
              ((torporref04_Append (x7, (Ty.at (.pr (.int .u8) (.sl (.int .u8))) x5 x6.toNat).1, (Ty.at (.pr (.int .u8) (.sl (.int .u8))) x5 x6.toNat).2)).bind fun (x8, x9) => 
                (bif !decide (x8 = (0 : Int)) then some (.inr (x8, []))
                else some (.inl ((x5, IntKind.i64.wrap (x6 + (1 : Int))), x9))))
              else none
          | .inr o => some o)
    else some (.inr (0, x4)))
    ((x1, 0), [])
def torporref04_All : (List (Int × List Int)) → Option (Int × List Int) := torporref04_All_g LOOPx torporref04_Append
theorem torporref04_All_ok : FnOK Go.Proofs.Try.prog fn_torporref04_All sg_torporref04_All torporref04_All := fn_of (P := Go.Proofs.Try.prog) (f := fn_torporref04_All) (sg := sg_torporref04_All) (sgs := [(fn_torporref04_Append, sg_torporref04_Append)]) (Gd := fun LP gs => torporref04_All_g LP gs.1) (hn := []) (h := [(8, false, ⟨[(0, .vs 0 (.pr (.int .u8) (.sl (.int .u8)))), (4, .gr 0), (5, .it .i64)], [.gs true (.int .u8)]⟩), (18, true, ⟨[(0, .vs 0 (.pr (.int .u8) (.sl (.int .u8)))), (4, .gr 0), (5, .it .i64)], [.gs true (.int .u8)]⟩)]) (torporref04_Append, ()) ⟨torporref04_Append_ok, trivial⟩ (by kernel_rfl) (by kernel_rfl)
abbrev fn_torporref04_List : FuncId := 53
def sg_torporref04_List : Sig := ⟨⟨[(0, .vs 0 (.int .u8))], []⟩, [⟨[(0, .gr 0), (1, .it .i64)], [.gs true (.pr (.int .u8) (.sl (.int .u8)))]⟩]⟩
def torporref04_List_g (LP : LPT) (torporref04_Read : ((List Int) × Int) → Option ((Int × Int × Int) × List Int)) : (List Int) → Option (Int × List (Int × List Int)) := fun x1 =>
  LP (((List Int) × Int) × List (Int × List Int)) (Int × List (Int × List Int)) (fun ((x2, x3), x4) =>
    bif decide (x3 < (x2.length : Int)) then 
        ((torporref04_Read (x2, x3)).bind fun ((x5, x6, x7), x8) => 
          (bif !decide (x7 = (0 : Int)) then some (.inr (x7, []))
          else 
            (bif decide ((0 : Int) < (x4.length : Int)) then 
                (bif decide (0 ≤ IntKind.i64.wrap ((x4.length : Int) - (1 : Int))) && decide (IntKind.i64.wrap ((x4.length : Int) - (1 : Int)) < (x4.length : Int)) then 
                  (bif decide ((IntKind.i64.wrap ((x4.length : Int) - (1 : Int))).toNat < x4.length) then 
                    (bif decide (x5 ≤ ((Ty.at (.pr (.int .u8) (.sl (.int .u8))) x4 ((IntKind.i64.wrap ((x4.length : Int) - (1 : Int))).toNat)).1)) then some (.inr (3, []))
                    else 
                      (bif decide ((x4.length + ([(x5, x8)]).length) * 32 ≤ 140737488355328) then some (.inl ((x2, x6), x4 ++ ([(x5, x8)])))
                        else none))
                    else none)
                  else none)
            else 
              (bif decide ((x4.length + ([(x5, x8)]).length) * 32 ≤ 140737488355328) then some (.inl ((x2, x6), x4 ++ ([(x5, x8)])))
                else none))))
    else some (.inr (0, x4)))
    ((x1, 0), [])
def torporref04_List : (List Int) → Option (Int × List (Int × List Int)) := torporref04_List_g LOOPx torporref04_Read
theorem torporref04_List_ok : FnOK Go.Proofs.Try.prog fn_torporref04_List sg_torporref04_List torporref04_List := fn_of (P := Go.Proofs.Try.prog) (f := fn_torporref04_List) (sg := sg_torporref04_List) (sgs := [(fn_torporref04_Read, sg_torporref04_Read)]) (Gd := fun LP gs => torporref04_List_g LP gs.1) (hn := []) (h := [(8, false, ⟨[(0, .vs 0 (.int .u8)), (4, .gr 0), (5, .it .i64)], [.gs true (.pr (.int .u8) (.sl (.int .u8)))]⟩)]) (torporref04_Read, ()) ⟨torporref04_Read_ok, trivial⟩ (by kernel_rfl) (by kernel_rfl)
abbrev fn_section_Append : FuncId := 67
def sg_section_Append : Sig := ⟨⟨[(0, .vs 0 (.int .u8)), (1, .ag [.it .u8, .vs 0 (.int .u8)])], []⟩, [⟨[(0, .gr 0), (1, .it .i64)], [.gs true (.int .u8)]⟩]⟩
def section_Append_g (LP : LPT) (octet_Put : ((List Int) × Int × Int) → Option (Int × List Int)) (varint_Append : ((List Int) × Int) → Option (List Int)) (crc_Sum : (List Int) → Option (Int)) (Concat_byte : (List (List Int)) → Option (List Int)) : ((List Int) × Int × List Int) → Option (Int × List Int) := fun (x1, x2, x3) =>
  bif decide (x2 = (0 : Int)) then some (3, [])
  else 
    (bif decide ((65535 : Int) < (x3.length : Int)) then some (4, [])
    else 
      ((varint_Append ([x2], IntKind.u64.wrap (x3.length : Int))).bind fun x4 => 
        (bif decide ((x4.length + x3.length) * 1 ≤ 140737488355328) then 
          ((crc_Sum (x4 ++ x3)).bind fun x5 => 
            ((octet_Put (x4 ++ x3, IntKind.u64.wrap x5, 4)).bind fun (x6, x7) => 
              ((Concat_byte ([x1, x7])).bind fun x8 => some (0, x8))))
          else none)))
def section_Append : ((List Int) × Int × List Int) → Option (Int × List Int) := section_Append_g LOOPx octet_Put varint_Append crc_Sum Concat_byte
theorem section_Append_ok : FnOK Go.Proofs.Try.prog fn_section_Append sg_section_Append section_Append := fn_of (P := Go.Proofs.Try.prog) (f := fn_section_Append) (sg := sg_section_Append) (sgs := [(fn_octet_Put, sg_octet_Put), (fn_varint_Append, sg_varint_Append), (fn_crc_Sum, sg_crc_Sum), (fn_Concat_byte, sg_Concat_byte)]) (Gd := fun LP gs => section_Append_g LP gs.1 gs.2.1 gs.2.2.1 gs.2.2.2.1) (hn := []) (h := []) (octet_Put, varint_Append, crc_Sum, Concat_byte, ()) ⟨octet_Put_ok, varint_Append_ok, crc_Sum_ok, Concat_byte_ok, trivial⟩ (by kernel_rfl) (by kernel_rfl)
abbrev fn_section_All : FuncId := 40
def sg_section_All : Sig := ⟨⟨[(0, .vs 0 (.pr (.int .u8) (.sl (.int .u8))))], []⟩, [⟨[(0, .gr 0), (1, .it .i64)], [.gs true (.int .u8)]⟩]⟩
def section_All_g (LP : LPT) (section_Append : ((List Int) × Int × List Int) → Option (Int × List Int)) : (List (Int × List Int)) → Option (Int × List Int) := fun x1 =>
  LP ((Int × (List (Int × List Int)) × Int × Int) × List Int) (Int × List Int) (fun ((x2, x3, x4, x5), x6) =>
    bif decide (x5 < x4) then 
        (bif decide (0 ≤ x5) && decide (x5 < (x3.length : Int)) then 
          (bif decide (((Ty.at (.pr (.int .u8) (.sl (.int .u8))) x3 x5.toNat).1) ≤ x2) then some (.inr (3, []))
          else 
            ((section_Append (x6, (Ty.at (.pr (.int .u8) (.sl (.int .u8))) x3 x5.toNat).1, (Ty.at (.pr (.int .u8) (.sl (.int .u8))) x3 x5.toNat).2)).bind fun (x7, x8) => 
              (bif !decide (x7 = (0 : Int)) then some (.inr (x7, []))
              else some (.inl (((Ty.at (.pr (.int .u8) (.sl (.int .u8))) x3 x5.toNat).1, x3, x4, IntKind.i64.wrap (x5 + (1 : Int))), x8)))))
          else none)
    else some (.inr (0, x6)))
    ((0, x1, (x1.length : Int), 0), [])
def section_All : (List (Int × List Int)) → Option (Int × List Int) := section_All_g LOOPx section_Append
theorem section_All_ok : FnOK Go.Proofs.Try.prog fn_section_All sg_section_All section_All := fn_of (P := Go.Proofs.Try.prog) (f := fn_section_All) (sg := sg_section_All) (sgs := [(fn_section_Append, sg_section_Append)]) (Gd := fun LP gs => section_All_g LP gs.1) (hn := []) (h := [(10, false, ⟨[(4, .gr 0), (5, .it .u8), (10, .vs 0 (.pr (.int .u8) (.sl (.int .u8)))), (11, .it .i64), (12, .it .i64)], [.gs true (.int .u8)]⟩)]) (section_Append, ()) ⟨section_Append_ok, trivial⟩ (by kernel_rfl) (by kernel_rfl)
abbrev fn_section_must : FuncId := 110
def sg_section_must : Sig := ⟨⟨[(0, .it .i64)], []⟩, [⟨[], []⟩]⟩
def section_must_g (LP : LPT) : Int → Option (Unit ⊕ Int) := fun x1 =>
  bif !decide (x1 = (0 : Int)) then some (.inr x1)
  else some (.inl ())
def section_must : Int → Option (Unit ⊕ Int) := section_must_g LOOPx
theorem section_must_ok : FnPOK Go.Proofs.Try.prog fn_section_must sg_section_must (.fc 118 (.ag [.it .i64])) section_must := fnP_of (P := Go.Proofs.Try.prog) (f := fn_section_must) (sg := sg_section_must) (p := .fc 118 (.ag [.it .i64])) (sgs := []) (pgs := []) (Gd := fun LP gs ps => section_must_g LP) (hn := []) (h := []) (()) trivial (()) trivial (by kernel_rfl) (by kernel_rfl)
abbrev fn_cut : FuncId := 100
def sg_cut : Sig := ⟨⟨[(0, .pt 0 0), (1, .it .i64)], [.va [.vs 1 (.int .u8), .it .i64]]⟩, [⟨[(0, .vs 2 (.int .u8))], [.va [.vs 1 (.int .u8), .it .i64]]⟩]⟩
def cut_g (LP : LPT) (octet_Cut : ((List Int) × Int × Int) → Option ((List Int) × Int × Int)) (section_must : Int → Option (Unit ⊕ Int)) : (Int × (List Int) × Int) → Option (((List Int) × (List Int) × Int) ⊕ Int) := fun (x1, x2, x3) =>
  (octet_Cut (x2, x3, x1)).bind fun (x4, x5, x6) => 
    ((section_must x6).bind fun x => match x with
      | .inl _ => some (.inl (x4, x2, x5))
      | .inr x7 => some (.inr x7))
def cut : (Int × (List Int) × Int) → Option (((List Int) × (List Int) × Int) ⊕ Int) := cut_g LOOPx octet_Cut section_must
theorem cut_ok : FnPOK Go.Proofs.Try.prog fn_cut sg_cut (.fc 118 (.ag [.it .i64])) cut := fnP_of (P := Go.Proofs.Try.prog) (f := fn_cut) (sg := sg_cut) (p := .fc 118 (.ag [.it .i64])) (sgs := [(fn_octet_Cut, sg_octet_Cut)]) (pgs := [(fn_section_must, sg_section_must, .fc 118 (.ag [.it .i64]))]) (Gd := fun LP gs ps => cut_g LP gs.1 ps.1) (hn := []) (h := []) (octet_Cut, ()) ⟨octet_Cut_ok, trivial⟩ (section_must, ()) ⟨section_must_ok, trivial⟩ (by kernel_rfl) (by kernel_rfl)
abbrev fn_length : FuncId := 101
def sg_length : Sig := ⟨⟨[(0, .pt 0 0)], [.va [.vs 1 (.int .u8), .it .i64]]⟩, [⟨[(0, .it .i64)], [.va [.vs 1 (.int .u8), .it .i64]]⟩]⟩
def length_g (LP : LPT) (varint_Read : ((List Int) × Int) → Option (Int × Int × Int)) (section_must : Int → Option (Unit ⊕ Int)) : ((List Int) × Int) → Option ((Int × (List Int) × Int) ⊕ Int) := fun (x1, x2) =>
  (varint_Read (x1, x2)).bind fun (x3, x4, x5) => 
    ((section_must x5).bind fun x => match x with
      | .inl _ => bif decide ((65535 : Int) < x3) then some (.inr (4 : Int))
        else some (.inl (IntKind.i64.wrap x3, x1, x4))
      | .inr x6 => some (.inr x6))
def length : ((List Int) × Int) → Option ((Int × (List Int) × Int) ⊕ Int) := length_g LOOPx varint_Read section_must
theorem length_ok : FnPOK Go.Proofs.Try.prog fn_length sg_length (.fc 118 (.ag [.it .i64])) length := fnP_of (P := Go.Proofs.Try.prog) (f := fn_length) (sg := sg_length) (p := .fc 118 (.ag [.it .i64])) (sgs := [(fn_varint_Read, sg_varint_Read)]) (pgs := [(fn_section_must, sg_section_must, .fc 118 (.ag [.it .i64]))]) (Gd := fun LP gs ps => length_g LP gs.1 ps.1) (hn := []) (h := []) (varint_Read, ()) ⟨varint_Read_ok, trivial⟩ (section_must, ()) ⟨section_must_ok, trivial⟩ (by kernel_rfl) (by kernel_rfl)
abbrev fn_section_ : FuncId := 77
def sg_section_ : Sig := ⟨⟨[(0, .pt 0 0)], [.va [.vs 1 (.int .u8), .it .i64]]⟩, [⟨[(0, .ag [.it .u8, .gr 1])], [.va [.vs 1 (.int .u8), .it .i64], .gs true (.int .u8)]⟩]⟩
def section__g (LP : LPT) (octet_Take : ((List Int) × Int × Int) → Option (Int × Int × Int)) (Clone_byte : (List Int) → Option (List Int)) (crc_Sum : (List Int) → Option (Int)) (cut : (Int × (List Int) × Int) → Option (((List Int) × (List Int) × Int) ⊕ Int)) (length : ((List Int) × Int) → Option ((Int × (List Int) × Int) ⊕ Int)) : ((List Int) × Int) → Option ((Int × ((List Int) × Int) × List Int) ⊕ Int) := fun (x1, x2) =>
  (cut (1, x1, x2)).bind fun x => match x with
    | .inl (x3, x4, x5) => bif decide (0 ≤ 0) && decide (0 < (x3.length : Int)) then 
        (bif decide ((Ty.at (.int .u8) x3 ((0 : Int).toNat)) = (0 : Int)) then some (.inr (3 : Int))
        else 
          ((length (x4, x5)).bind fun x => match x with
            | .inl (x7, x8, x9) => (cut (x7, x8, x9)).bind fun x => match x with
                | .inl (x11, x12, x13) => bif (decide (0 ≤ x13) && decide (x13 ≤ (x12.length : Int))) && (decide (0 ≤ x2) && decide (x2 ≤ (x13.toNat : Int))) then 
                    ((crc_Sum ((x12.take x13.toNat).drop x2.toNat)).bind fun x15 => 
                      ((cut (4, x12, x13)).bind fun x => match x with
                        | .inl (x16, x17, x18) => (octet_Take (x16, 0, 4)).bind fun (x20, x21, x22) => 
                            (bif !decide ((IntKind.u64.wrap x15) = x20) then some (.inr (5 : Int))
                            else 
                              ((Clone_byte x11).bind fun x23 => some (.inl (Ty.at (.int .u8) x3 ((0 : Int).toNat), (x17, x18), x23))))
                        | .inr x19 => some (.inr x19)))
                    else none
                | .inr x14 => some (.inr x14)
            | .inr x10 => some (.inr x10)))
        else none
    | .inr x6 => some (.inr x6)
def section_ : ((List Int) × Int) → Option ((Int × ((List Int) × Int) × List Int) ⊕ Int) := section__g LOOPx octet_Take Clone_byte crc_Sum cut length
theorem section__ok : FnPOK Go.Proofs.Try.prog fn_section_ sg_section_ (.fc 118 (.ag [.it .i64])) section_ := fnP_of (P := Go.Proofs.Try.prog) (f := fn_section_) (sg := sg_section_) (p := .fc 118 (.ag [.it .i64])) (sgs := [(fn_octet_Take, sg_octet_Take), (fn_Clone_byte, sg_Clone_byte), (fn_crc_Sum, sg_crc_Sum)]) (pgs := [(fn_cut, sg_cut, .fc 118 (.ag [.it .i64])), (fn_length, sg_length, .fc 118 (.ag [.it .i64]))]) (Gd := fun LP gs ps => section__g LP gs.1 gs.2.1 gs.2.2.1 ps.1 ps.2.1) (hn := []) (h := []) (octet_Take, Clone_byte, crc_Sum, ()) ⟨octet_Take_ok, Clone_byte_ok, crc_Sum_ok, trivial⟩ (cut, length, ()) ⟨cut_ok, length_ok, trivial⟩ (by kernel_rfl) (by kernel_rfl)
abbrev fn_caught_ni : FuncId := 76
def sg_caught_ni : Sig := ⟨⟨[(0, .ni)], []⟩, [⟨[(0, .it .i64)], []⟩]⟩
def caught_ni_g (LP : LPT) : Unit → Option (Int) := fun _ =>
  some (0 : Int)
def caught_ni : Unit → Option (Int) := caught_ni_g LOOPx
theorem caught_ni_ok : FnOK Go.Proofs.Try.prog fn_caught_ni sg_caught_ni caught_ni := fn_of (P := Go.Proofs.Try.prog) (f := fn_caught_ni) (sg := sg_caught_ni) (sgs := []) (Gd := fun LP gs => caught_ni_g LP) (hn := []) (h := []) (()) trivial (by kernel_rfl) (by kernel_rfl)
abbrev fn_caught_bad : FuncId := 76
def sg_caught_bad : Sig := ⟨⟨[(0, .fc 118 (.ag [.it .i64]))], []⟩, [⟨[(0, .it .i64)], []⟩]⟩
def caught_bad_g (LP : LPT) : Int → Option (Int) := fun x1 =>
  some x1
def caught_bad : Int → Option (Int) := caught_bad_g LOOPx
theorem caught_bad_ok : FnOK Go.Proofs.Try.prog fn_caught_bad sg_caught_bad caught_bad := fn_of (P := Go.Proofs.Try.prog) (f := fn_caught_bad) (sg := sg_caught_bad) (sgs := []) (Gd := fun LP gs => caught_bad_g LP) (hn := []) (h := []) (()) trivial (by kernel_rfl) (by kernel_rfl)
abbrev fn_List_ni : FuncId := 75
def sg_List_ni : Sig := ⟨⟨[(0, .pt 0 0), (1, .pt 1 0), (2, .ni)], [.va [.gr 2], .va [.it .i64], .gs true (.pr (.int .u8) (.sl (.int .u8)))]⟩, [⟨[], [.va [.gr 2], .va [.it .i64], .gs true (.pr (.int .u8) (.sl (.int .u8)))]⟩, ⟨[], [.va [.sn], .va [.it .i64], .gs true (.pr (.int .u8) (.sl (.int .u8)))]⟩]⟩
def List_ni_g (LP : LPT) (caught_ni : Unit → Option (Int)) : (Int × List (Int × List Int)) → Option ((Int × List (Int × List Int)) ⊕ (Int × List (Int × List Int))) := fun (x1, x2) =>
  (caught_ni ()).bind fun x3 => 
    (bif !decide (x3 = (0 : Int)) then some (.inr ((x3, x2)))
    else some (.inl (x1, x2)))
def List_ni : (Int × List (Int × List Int)) → Option ((Int × List (Int × List Int)) ⊕ (Int × List (Int × List Int))) := List_ni_g LOOPx caught_ni
theorem List_ni_ok : DfOK Go.Proofs.Try.prog fn_List_ni sg_List_ni List_ni := df_of (P := Go.Proofs.Try.prog) (f := fn_List_ni) (sg := sg_List_ni) (sgs := [(fn_caught_ni, sg_caught_ni)]) (Gd := fun LP gs => List_ni_g LP gs.1) (hn := []) (h := []) (caught_ni, ()) ⟨caught_ni_ok, trivial⟩ (by kernel_rfl) (by kernel_rfl)
abbrev fn_List_nil : FuncId := 75
def sg_List_nil : Sig := ⟨⟨[(0, .pt 0 0), (1, .pt 1 0), (2, .ni)], [.va [.sn], .va [.it .i64]]⟩, [⟨[], [.va [.sn], .va [.it .i64]]⟩]⟩
def List_nil_g (LP : LPT) (caught_ni : Unit → Option (Int)) : Int → Option (Int) := fun x1 =>
  (caught_ni ()).bind fun x2 => 
    (bif !decide (x2 = (0 : Int)) then some x2
    else some x1)
def List_nil : Int → Option (Int) := List_nil_g LOOPx caught_ni
theorem List_nil_ok : DfOK Go.Proofs.Try.prog fn_List_nil sg_List_nil List_nil := df_of (P := Go.Proofs.Try.prog) (f := fn_List_nil) (sg := sg_List_nil) (sgs := [(fn_caught_ni, sg_caught_ni)]) (Gd := fun LP gs => List_nil_g LP gs.1) (hn := []) (h := []) (caught_ni, ()) ⟨caught_ni_ok, trivial⟩ (by kernel_rfl) (by kernel_rfl)
abbrev fn_List_bad : FuncId := 75
def sg_List_bad : Sig := ⟨⟨[(0, .pt 0 0), (1, .pt 1 0), (2, .fc 118 (.ag [.it .i64]))], [.va [.gr 2], .va [.it .i64], .gs true (.pr (.int .u8) (.sl (.int .u8)))]⟩, [⟨[], [.va [.gr 2], .va [.it .i64], .gs true (.pr (.int .u8) (.sl (.int .u8)))]⟩, ⟨[], [.va [.sn], .va [.it .i64], .gs true (.pr (.int .u8) (.sl (.int .u8)))]⟩]⟩
def List_bad_g (LP : LPT) (caught_bad : Int → Option (Int)) : (Int × Int × List (Int × List Int)) → Option ((Int × List (Int × List Int)) ⊕ (Int × List (Int × List Int))) := fun (x1, x2, x3) =>
  (caught_bad x1).bind fun x4 => 
    (bif !decide (x4 = (0 : Int)) then some (.inr ((x4, x3)))
    else some (.inl (x2, x3)))
def List_bad : (Int × Int × List (Int × List Int)) → Option ((Int × List (Int × List Int)) ⊕ (Int × List (Int × List Int))) := List_bad_g LOOPx caught_bad
theorem List_bad_ok : DfOK Go.Proofs.Try.prog fn_List_bad sg_List_bad List_bad := df_of (P := Go.Proofs.Try.prog) (f := fn_List_bad) (sg := sg_List_bad) (sgs := [(fn_caught_bad, sg_caught_bad)]) (Gd := fun LP gs => List_bad_g LP gs.1) (hn := []) (h := []) (caught_bad, ()) ⟨caught_bad_ok, trivial⟩ (by kernel_rfl) (by kernel_rfl)
abbrev fn_section_List : FuncId := 48
def sg_section_List : Sig := ⟨⟨[(0, .vs 1 (.int .u8))], []⟩, [⟨[(0, .gr 0), (1, .it .i64)], [.gs true (.pr (.int .u8) (.sl (.int .u8)))]⟩]⟩
def section_List_g (LP : LPT) (section_ : ((List Int) × Int) → Option ((Int × ((List Int) × Int) × List Int) ⊕ Int)) (List_ni : (Int × List (Int × List Int)) → Option ((Int × List (Int × List Int)) ⊕ (Int × List (Int × List Int)))) (List_nil : Int → Option (Int)) (List_bad : (Int × Int × List (Int × List Int)) → Option ((Int × List (Int × List Int)) ⊕ (Int × List (Int × List Int)))) : (List Int) → Option (Int × List (Int × List Int)) := fun x1 =>
  LP (((List Int) × Int) × Int × ((List Int) × Int) × List (Int × List Int)) (Int × List (Int × List Int)) (fun ((x2, x3), x4, (x5, x6), x7) =>
    bif decide (x6 < (x2.length : Int)) then 
        ((section_ (x5, x6)).bind fun x => match x with
          | .inl (x8, (x9, x10), x11) => bif decide (x8 ≤ x3) then 
                (inR ((List_nil (3 : Int)).bind fun x13 => some (x13, [])))
            else 
              (bif decide ((x7.length + ([(x8, x11)]).length) * 32 ≤ 140737488355328) then some (.inl ((x2, x8), x4, (x9, x10), x7 ++ ([(x8, x11)])))
                else none)
          | .inr x12 => inR ((List_bad (x12, x4, x7)).bind fun x => match x with
                | .inl (x14, x15) => some (x14, x15)
                | .inr ((x16, x17)) => some (x16, [])))
    else 
      (inR ((List_ni (0, x7)).bind fun x => match x with
          | .inl (x18, x19) => some (x18, x19)
          | .inr ((x20, x21)) => some (x20, []))))
    ((x1, 0), 0, (x1, 0), [])
def section_List : (List Int) → Option (Int × List (Int × List Int)) := section_List_g LOOPx section_ List_ni List_nil List_bad
theorem section_List_ok : FnOK Go.Proofs.Try.prog fn_section_List sg_section_List section_List := fnD_of (P := Go.Proofs.Try.prog) (f := fn_section_List) (sg := sg_section_List) (sgs := []) (pgs := [(fn_section_, sg_section_, .fc 118 (.ag [.it .i64]))]) (dgs := [(fn_List_ni, sg_List_ni), (fn_List_nil, sg_List_nil), (fn_List_bad, sg_List_bad)]) (Gd := fun LP gs ps ds => section_List_g LP ps.1 ds.1 ds.2.1 ds.2.2.1) (hn := []) (h := [(9, false, ⟨[(0, .vs 1 (.int .u8)), (2, .pt 0 0), (3, .pt 1 0), (4, .pt 2 0), (5, .it .u8)], [.va [.gr 3], .va [.it .i64], .va [.vs 1 (.int .u8), .it .i64], .gs true (.pr (.int .u8) (.sl (.int .u8)))]⟩)]) (()) trivial (section_, ()) ⟨section__ok, trivial⟩ (List_ni, List_nil, List_bad, ()) ⟨List_ni_ok, List_nil_ok, List_bad_ok, trivial⟩ (by kernel_rfl) (by kernel_rfl)
abbrev fn_cmp_isNaN_int : FuncId := 74
def sg_cmp_isNaN_int : Sig := ⟨⟨[(0, .it .i64)], []⟩, [⟨[(0, .bo)], []⟩]⟩
def cmp_isNaN_int_g (LP : LPT) : Int → Option (Bool) := fun x1 =>
  some (!decide (x1 = x1))
def cmp_isNaN_int : Int → Option (Bool) := cmp_isNaN_int_g LOOPx
theorem cmp_isNaN_int_ok : FnOK Go.Proofs.Try.prog fn_cmp_isNaN_int sg_cmp_isNaN_int cmp_isNaN_int := fn_of (P := Go.Proofs.Try.prog) (f := fn_cmp_isNaN_int) (sg := sg_cmp_isNaN_int) (sgs := []) (Gd := fun LP gs => cmp_isNaN_int_g LP) (hn := []) (h := []) (()) trivial (by kernel_rfl) (by kernel_rfl)
abbrev fn_cmp_Compare_int : FuncId := 47
def sg_cmp_Compare_int : Sig := ⟨⟨[(0, .it .i64), (1, .it .i64)], []⟩, [⟨[(0, .it .i64)], []⟩]⟩
def cmp_Compare_int_g (LP : LPT) (cmp_isNaN_int : Int → Option (Bool)) : (Int × Int) → Option (Int) := fun (x1, x2) =>
  (cmp_isNaN_int x1).bind fun x3 => 
    ((cmp_isNaN_int x2).bind fun x4 => 
      (bif x3 then 
          (bif x4 then some (0 : Int)
          else some (-1))
      else 
        (bif x4 then some (1 : Int)
        else 
          (bif decide (x1 < x2) then some (-1)
          else 
            (bif decide (x2 < x1) then some (1 : Int)
            else some (0 : Int))))))
def cmp_Compare_int : (Int × Int) → Option (Int) := cmp_Compare_int_g LOOPx cmp_isNaN_int
theorem cmp_Compare_int_ok : FnOK Go.Proofs.Try.prog fn_cmp_Compare_int sg_cmp_Compare_int cmp_Compare_int := fn_of (P := Go.Proofs.Try.prog) (f := fn_cmp_Compare_int) (sg := sg_cmp_Compare_int) (sgs := [(fn_cmp_isNaN_int, sg_cmp_isNaN_int)]) (Gd := fun LP gs => cmp_Compare_int_g LP gs.1) (hn := []) (h := []) (cmp_isNaN_int, ()) ⟨cmp_isNaN_int_ok, trivial⟩ (by kernel_rfl) (by kernel_rfl)
abbrev fn_varint_Zig : FuncId := 63
def sg_varint_Zig : Sig := ⟨⟨[(0, .it .i64)], []⟩, [⟨[(0, .it .u64)], []⟩]⟩
def varint_Zig_g (LP : LPT) : Int → Option (Int) := fun x1 =>
  bif decide (0 ≤ (1 : Int)) then 
    (bif decide (0 ≤ (63 : Int)) then some (Go.bits .xor IntKind.u64 (IntKind.u64.wrap ((IntKind.u64.wrap x1) * 2 ^ (min (1 : Int).toNat IntKind.u64.bits))) (IntKind.u64.wrap (x1.fdiv (2 ^ (min (63 : Int).toNat IntKind.i64.bits)))))
      else none)
    else none
def varint_Zig : Int → Option (Int) := varint_Zig_g LOOPx
theorem varint_Zig_ok : FnOK Go.Proofs.Try.prog fn_varint_Zig sg_varint_Zig varint_Zig := fn_of (P := Go.Proofs.Try.prog) (f := fn_varint_Zig) (sg := sg_varint_Zig) (sgs := []) (Gd := fun LP gs => varint_Zig_g LP) (hn := []) (h := []) (()) trivial (by kernel_rfl) (by kernel_rfl)
abbrev fn_varint_Zag : FuncId := 103
def sg_varint_Zag : Sig := ⟨⟨[(0, .it .u64)], []⟩, [⟨[(0, .it .i64)], []⟩]⟩
def varint_Zag_g (LP : LPT) : Int → Option (Int) := fun x1 =>
  bif decide (0 ≤ (1 : Int)) then some (Go.bits .xor IntKind.i64 (IntKind.i64.wrap (x1.fdiv (2 ^ (min (1 : Int).toNat IntKind.u64.bits)))) (IntKind.i64.wrap (0 - (IntKind.i64.wrap (Go.bits .and IntKind.u64 x1 (1 : Int))))))
    else none
def varint_Zag : Int → Option (Int) := varint_Zag_g LOOPx
theorem varint_Zag_ok : FnOK Go.Proofs.Try.prog fn_varint_Zag sg_varint_Zag varint_Zag := fn_of (P := Go.Proofs.Try.prog) (f := fn_varint_Zag) (sg := sg_varint_Zag) (sgs := []) (Gd := fun LP gs => varint_Zag_g LP) (hn := []) (h := []) (()) trivial (by kernel_rfl) (by kernel_rfl)
abbrev fn_varint_AppendInt_nil : FuncId := 38
def sg_varint_AppendInt_nil : Sig := ⟨⟨[(0, .sn), (1, .it .i64)], []⟩, [⟨[(0, .gr 0)], [.gs true (.int .u8)]⟩]⟩
def varint_AppendInt_nil_g (LP : LPT) (varint_Append_nil : Int → Option (List Int)) (varint_Zig : Int → Option (Int)) : Int → Option (List Int) := fun x1 =>
  (varint_Zig x1).bind fun x2 => 
    ((varint_Append_nil x2).bind fun x3 => some x3)
def varint_AppendInt_nil : Int → Option (List Int) := varint_AppendInt_nil_g LOOPx varint_Append_nil varint_Zig
theorem varint_AppendInt_nil_ok : FnOK Go.Proofs.Try.prog fn_varint_AppendInt_nil sg_varint_AppendInt_nil varint_AppendInt_nil := fn_of (P := Go.Proofs.Try.prog) (f := fn_varint_AppendInt_nil) (sg := sg_varint_AppendInt_nil) (sgs := [(fn_varint_Append_nil, sg_varint_Append_nil), (fn_varint_Zig, sg_varint_Zig)]) (Gd := fun LP gs => varint_AppendInt_nil_g LP gs.1 gs.2.1) (hn := []) (h := []) (varint_Append_nil, varint_Zig, ()) ⟨varint_Append_nil_ok, varint_Zig_ok, trivial⟩ (by kernel_rfl) (by kernel_rfl)
abbrev fn_varint_AppendInt : FuncId := 38
def sg_varint_AppendInt : Sig := ⟨⟨[(0, .vs 0 (.int .u8)), (1, .it .i64)], []⟩, [⟨[(0, .gr 0)], [.gs true (.int .u8)]⟩]⟩
def varint_AppendInt_g (LP : LPT) (varint_Append : ((List Int) × Int) → Option (List Int)) (varint_Zig : Int → Option (Int)) : ((List Int) × Int) → Option (List Int) := fun (x1, x2) =>
  (varint_Zig x2).bind fun x3 => 
    ((varint_Append (x1, x3)).bind fun x4 => some x4)
def varint_AppendInt : ((List Int) × Int) → Option (List Int) := varint_AppendInt_g LOOPx varint_Append varint_Zig
theorem varint_AppendInt_ok : FnOK Go.Proofs.Try.prog fn_varint_AppendInt sg_varint_AppendInt varint_AppendInt := fn_of (P := Go.Proofs.Try.prog) (f := fn_varint_AppendInt) (sg := sg_varint_AppendInt) (sgs := [(fn_varint_Append, sg_varint_Append), (fn_varint_Zig, sg_varint_Zig)]) (Gd := fun LP gs => varint_AppendInt_g LP gs.1 gs.2.1) (hn := []) (h := []) (varint_Append, varint_Zig, ()) ⟨varint_Append_ok, varint_Zig_ok, trivial⟩ (by kernel_rfl) (by kernel_rfl)
abbrev fn_varint_ReadInt : FuncId := 78
def sg_varint_ReadInt : Sig := ⟨⟨[(0, .vs 0 (.int .u8)), (1, .it .i64)], []⟩, [⟨[(0, .it .i64), (1, .it .i64), (2, .it .i64)], []⟩]⟩
def varint_ReadInt_g (LP : LPT) (varint_Read : ((List Int) × Int) → Option (Int × Int × Int)) (varint_Zag : Int → Option (Int)) : ((List Int) × Int) → Option (Int × Int × Int) := fun (x1, x2) =>
  (varint_Read (x1, x2)).bind fun (x3, x4, x5) => 
    ((varint_Zag x3).bind fun x6 => some (x6, x4, x5))
def varint_ReadInt : ((List Int) × Int) → Option (Int × Int × Int) := varint_ReadInt_g LOOPx varint_Read varint_Zag
theorem varint_ReadInt_ok : FnOK Go.Proofs.Try.prog fn_varint_ReadInt sg_varint_ReadInt varint_ReadInt := fn_of (P := Go.Proofs.Try.prog) (f := fn_varint_ReadInt) (sg := sg_varint_ReadInt) (sgs := [(fn_varint_Read, sg_varint_Read), (fn_varint_Zag, sg_varint_Zag)]) (Gd := fun LP gs => varint_ReadInt_g LP gs.1 gs.2.1) (hn := []) (h := []) (varint_Read, varint_Zag, ()) ⟨varint_Read_ok, varint_Zag_ok, trivial⟩ (by kernel_rfl) (by kernel_rfl)
abbrev fn_torporref02_Zig : FuncId := 69
def sg_torporref02_Zig : Sig := ⟨⟨[(0, .it .i64)], []⟩, [⟨[(0, .it .u64)], []⟩]⟩
def torporref02_Zig_g (LP : LPT) : Int → Option (Int) := fun x1 =>
  bif decide (x1 < (0 : Int)) then some (IntKind.u64.wrap ((IntKind.u64.wrap ((IntKind.u64.wrap (IntKind.i64.wrap (0 - (IntKind.i64.wrap (x1 + (1 : Int)))))) * (2 : Int))) + (1 : Int)))
  else some (IntKind.u64.wrap ((IntKind.u64.wrap x1) * (2 : Int)))
def torporref02_Zig : Int → Option (Int) := torporref02_Zig_g LOOPx
theorem torporref02_Zig_ok : FnOK Go.Proofs.Try.prog fn_torporref02_Zig sg_torporref02_Zig torporref02_Zig := fn_of (P := Go.Proofs.Try.prog) (f := fn_torporref02_Zig) (sg := sg_torporref02_Zig) (sgs := []) (Gd := fun LP gs => torporref02_Zig_g LP) (hn := []) (h := []) (()) trivial (by kernel_rfl) (by kernel_rfl)
abbrev fn_torporref02_Zag : FuncId := 84
def sg_torporref02_Zag : Sig := ⟨⟨[(0, .it .u64)], []⟩, [⟨[(0, .it .i64)], []⟩]⟩
def torporref02_Zag_g (LP : LPT) : Int → Option (Int) := fun x1 =>
  bif !decide ((2 : Int) = 0) then 
    (bif decide ((x1.tmod (2 : Int)) = (1 : Int)) then 
        (bif !decide ((2 : Int) = 0) then some (IntKind.i64.wrap ((IntKind.i64.wrap (0 - (IntKind.i64.wrap (IntKind.u64.wrap (x1.tdiv (2 : Int)))))) - (1 : Int)))
          else none)
    else 
      (bif !decide ((2 : Int) = 0) then some (IntKind.i64.wrap (IntKind.u64.wrap (x1.tdiv (2 : Int))))
        else none))
    else none
def torporref02_Zag : Int → Option (Int) := torporref02_Zag_g LOOPx
theorem torporref02_Zag_ok : FnOK Go.Proofs.Try.prog fn_torporref02_Zag sg_torporref02_Zag torporref02_Zag := fn_of (P := Go.Proofs.Try.prog) (f := fn_torporref02_Zag) (sg := sg_torporref02_Zag) (sgs := []) (Gd := fun LP gs => torporref02_Zag_g LP) (hn := []) (h := []) (()) trivial (by kernel_rfl) (by kernel_rfl)
abbrev fn_torporref02_ReadInt : FuncId := 55
def sg_torporref02_ReadInt : Sig := ⟨⟨[(0, .vs 0 (.int .u8)), (1, .it .i64)], []⟩, [⟨[(0, .it .i64), (1, .it .i64), (2, .it .i64)], []⟩]⟩
def torporref02_ReadInt_g (LP : LPT) (torporref02_Read : ((List Int) × Int) → Option (Int × Int × Int)) (torporref02_Zag : Int → Option (Int)) : ((List Int) × Int) → Option (Int × Int × Int) := fun (x1, x2) =>
  (torporref02_Read (x1, x2)).bind fun (x3, x4, x5) => 
    (bif !decide (x5 = (0 : Int)) then some (0, 0, x5)
    else 
      ((torporref02_Zag x3).bind fun x6 => some (x6, x4, 0)))
def torporref02_ReadInt : ((List Int) × Int) → Option (Int × Int × Int) := torporref02_ReadInt_g LOOPx torporref02_Read torporref02_Zag
theorem torporref02_ReadInt_ok : FnOK Go.Proofs.Try.prog fn_torporref02_ReadInt sg_torporref02_ReadInt torporref02_ReadInt := fn_of (P := Go.Proofs.Try.prog) (f := fn_torporref02_ReadInt) (sg := sg_torporref02_ReadInt) (sgs := [(fn_torporref02_Read, sg_torporref02_Read), (fn_torporref02_Zag, sg_torporref02_Zag)]) (Gd := fun LP gs => torporref02_ReadInt_g LP gs.1 gs.2.1) (hn := []) (h := []) (torporref02_Read, torporref02_Zag, ()) ⟨torporref02_Read_ok, torporref02_Zag_ok, trivial⟩ (by kernel_rfl) (by kernel_rfl)
abbrev fn_torporref28_Block : FuncId := 33
def sg_torporref28_Block : Sig := ⟨⟨[(0, .vs 0 (.int .u8)), (1, .it .i64)], []⟩, [⟨[(0, .vs 0 (.int .u8))], []⟩]⟩
def torporref28_Block_g (LP : LPT) : ((List Int) × Int) → Option (List Int) := fun (x1, x2) =>
  bif !(decide (x2 < (0 : Int))) then 
      (bif !(decide ((5000 : Int) < x2)) then 
          (bif decide ((x1.length : Int) ≤ (IntKind.i64.wrap ((16 : Int) * x2))) then some ([])
          else 
            (bif (decide (0 ≤ (bif decide ((IntKind.i64.wrap ((IntKind.i64.wrap ((16 : Int) * x2)) + (16 : Int))) < (x1.length : Int)) then IntKind.i64.wrap ((IntKind.i64.wrap ((16 : Int) * x2)) + (16 : Int)) else (x1.length : Int))) && decide ((bif decide ((IntKind.i64.wrap ((IntKind.i64.wrap ((16 : Int) * x2)) + (16 : Int))) < (x1.length : Int)) then IntKind.i64.wrap ((IntKind.i64.wrap ((16 : Int) * x2)) + (16 : Int)) else (x1.length : Int)) ≤ (x1.length : Int))) && (decide (0 ≤ IntKind.i64.wrap ((16 : Int) * x2)) && decide (IntKind.i64.wrap ((16 : Int) * x2) ≤ ((bif decide ((IntKind.i64.wrap ((IntKind.i64.wrap ((16 : Int) * x2)) + (16 : Int))) < (x1.length : Int)) then IntKind.i64.wrap ((IntKind.i64.wrap ((16 : Int) * x2)) + (16 : Int)) else (x1.length : Int)).toNat : Int))) then some ((x1.take ((bif decide ((IntKind.i64.wrap ((IntKind.i64.wrap ((16 : Int) * x2)) + (16 : Int))) < (x1.length : Int)) then IntKind.i64.wrap ((IntKind.i64.wrap ((16 : Int) * x2)) + (16 : Int)) else (x1.length : Int)).toNat)).drop ((IntKind.i64.wrap ((16 : Int) * x2)).toNat))
              else none))
      else some ([]))
  else some ([])
def torporref28_Block : ((List Int) × Int) → Option (List Int) := torporref28_Block_g LOOPx
theorem torporref28_Block_ok : FnOK Go.Proofs.Try.prog fn_torporref28_Block sg_torporref28_Block torporref28_Block := fn_of (P := Go.Proofs.Try.prog) (f := fn_torporref28_Block) (sg := sg_torporref28_Block) (sgs := []) (Gd := fun LP gs => torporref28_Block_g LP) (hn := []) (h := []) (()) trivial (by kernel_rfl) (by kernel_rfl)
abbrev fn_torporref28_size : FuncId := 37
def sg_torporref28_size : Sig := ⟨⟨[(0, .it .i64), (1, .it .i64)], []⟩, [⟨[(0, .it .i64)], []⟩]⟩
def torporref28_size_g (LP : LPT) (torporref28_Block : ((List Int) × Int) → Option (List Int)) : (Int × Int) → Option (Int) := fun (x1, x2) =>
  bif decide (0 ≤ x1) && (decide (x1 ≤ x1) && (decide (x1 ≤ 9223372036854775807) && decide ((1 : Int) * x1 ≤ 140737488355328))) then 
    ((torporref28_Block (List.replicate x1.toNat (0 : Int), x2)).bind fun x3 => some (x3.length : Int))
    else none
def torporref28_size : (Int × Int) → Option (Int) := torporref28_size_g LOOPx torporref28_Block
theorem torporref28_size_ok : FnOK Go.Proofs.Try.prog fn_torporref28_size sg_torporref28_size torporref28_size := fn_of (P := Go.Proofs.Try.prog) (f := fn_torporref28_size) (sg := sg_torporref28_size) (sgs := [(fn_torporref28_Block, sg_torporref28_Block)]) (Gd := fun LP gs => torporref28_size_g LP gs.1) (hn := []) (h := []) (torporref28_Block, ()) ⟨torporref28_Block_ok, trivial⟩ (by kernel_rfl) (by kernel_rfl)
abbrev fn_torporref28_Right : FuncId := 19
def sg_torporref28_Right : Sig := ⟨⟨[(0, .ag [.it .i64, .it .u32, .it .i64, .it .u32, .vs 0 (.pr (.int .i64) (.sl (.int .u8)))])], []⟩, [⟨[(0, .bo)], []⟩]⟩
def torporref28_Right_g (LP : LPT) (torporref28_size : (Int × Int) → Option (Int)) : (Int × Int × Int × Int × List (Int × List Int)) → Option (Bool) := fun (x1, x2, x3, x4, x5) =>
  bif !(decide (x1 < (0 : Int))) then 
      (bif !(decide ((65535 : Int) < x1)) then 
          (bif !(decide (x3 < (0 : Int))) then 
              (bif decide ((65535 : Int) < x3) then some false
              else 
                (LP (Int × Int × Int × Int × Int × List (Int × List Int)) (Bool) (fun (x6, x7, x8, x9, x10, x11) =>
                  bif decide (x6 < (x11.length : Int)) then 
                      (bif decide (0 ≤ x6) && decide (x6 < (x11.length : Int)) then 
                        (bif decide ((0 : Int) < x6) then 
                            (bif decide (0 ≤ IntKind.i64.wrap (x6 - (1 : Int))) && decide (IntKind.i64.wrap (x6 - (1 : Int)) < (x11.length : Int)) then 
                              (bif !(decide (((Ty.at (.pr (.int .i64) (.sl (.int .u8))) x11 x6.toNat).1) ≤ ((Ty.at (.pr (.int .i64) (.sl (.int .u8))) x11 ((IntKind.i64.wrap (x6 - (1 : Int))).toNat)).1))) then 
                                  (bif !(decide ((((Ty.at (.pr (.int .i64) (.sl (.int .u8))) x11 x6.toNat).2).length : Int) = (0 : Int))) then 
                                      ((torporref28_size (x9, (Ty.at (.pr (.int .i64) (.sl (.int .u8))) x11 x6.toNat).1)).bind fun x12 => 
                                        (bif !decide ((((Ty.at (.pr (.int .i64) (.sl (.int .u8))) x11 x6.toNat).2).length : Int) = x12) then some (.inr false)
                                        else some (.inl (IntKind.i64.wrap (x6 + (1 : Int)), x7, x8, x9, x10, x11))))
                                  else some (.inr false))
                              else some (.inr false))
                              else none)
                        else 
                          (bif !(decide ((((Ty.at (.pr (.int .i64) (.sl (.int .u8))) x11 x6.toNat).2).length : Int) = (0 : Int))) then 
                              ((torporref28_size (x9, (Ty.at (.pr (.int .i64) (.sl (.int .u8))) x11 x6.toNat).1)).bind fun x13 => 
                                (bif !decide ((((Ty.at (.pr (.int .i64) (.sl (.int .u8))) x11 x6.toNat).2).length : Int) = x13) then some (.inr false)
                                else some (.inl (IntKind.i64.wrap (x6 + (1 : Int)), x7, x8, x9, x10, x11))))
                          else some (.inr false)))
                        else none)
                  else some (.inr true))
                  (0, x1, x2, x3, x4, x5)))
          else some false)
      else some false)
  else some false
def torporref28_Right : (Int × Int × Int × Int × List (Int × List Int)) → Option (Bool) := torporref28_Right_g LOOPx torporref28_size
theorem torporref28_Right_ok : FnOK Go.Proofs.Try.prog fn_torporref28_Right sg_torporref28_Right torporref28_Right := fn_of (P := Go.Proofs.Try.prog) (f := fn_torporref28_Right) (sg := sg_torporref28_Right) (sgs := [(fn_torporref28_size, sg_torporref28_size)]) (Gd := fun LP gs => torporref28_Right_g LP gs.1) (hn := []) (h := [(14, false, ⟨[(1, .pt 0 0), (3, .it .i64)], [.va [.it .i64, .it .u32, .it .i64, .it .u32, .vs 0 (.pr (.int .i64) (.sl (.int .u8)))]]⟩)]) (torporref28_size, ()) ⟨torporref28_size_ok, trivial⟩ (by kernel_rfl) (by kernel_rfl)
abbrev fn_torporref28_Diff : FuncId := 11
def sg_torporref28_Diff : Sig := ⟨⟨[(0, .vs 0 (.int .u8)), (1, .vs 0 (.int .u8))], []⟩, [⟨[(0, .ag [.it .i64, .it .u32, .it .i64, .it .u32, .gr 0]), (1, .it .i64)], [.gs true (.pr (.int .i64) (.sl (.int .u8)))]⟩]⟩
def torporref28_Diff_g (LP : LPT) (torporref03_Sum : (List Int) → Option (Int)) (torporref28_Block : ((List Int) × Int) → Option (List Int)) : ((List Int) × List Int) → Option (((Int × Int × Int × Int) × Int) × List (Int × List Int)) := fun (x1, x2) =>
  bif !(decide ((65535 : Int) < (x1.length : Int))) then 
      (bif decide ((65535 : Int) < (x2.length : Int)) then some (((0, 0, 0, 0), 4), [])
      else 
        ((torporref03_Sum x1).bind fun x3 => 
          ((torporref03_Sum x2).bind fun x4 => 
            (LP (((List Int) × (List Int) × Int) × (Int × Int × Int × Int) × (Int × Int × Int × Int) × List (Int × List Int)) (((Int × Int × Int × Int) × Int) × List (Int × List Int)) (fun ((x5, x6, x7), (x8, x9, x10, x11), (x12, x13, x14, x15), x16) =>
              bif decide ((IntKind.i64.wrap ((16 : Int) * x7)) < (x6.length : Int)) then 
                  ((torporref28_Block (x5, x7)).bind fun x17 => 
                    ((torporref28_Block (x6, x7)).bind fun x18 => 
                      (bif !((bst x17).toList == (bst x18).toList) then 
                          ((torporref28_Block (x6, x7)).bind fun x19 => 
                            (bif decide ((([] : List Int).length + x19.length) * 1 ≤ 140737488355328) then 
                              (bif decide ((x16.length + ([(x7, ([] : List Int) ++ x19)]).length) * 32 ≤ 140737488355328) then some (.inl ((x5, x6, IntKind.i64.wrap (x7 + (1 : Int))), (x8, x9, x10, x11), (x12, x13, x14, x15), x16 ++ ([(x7, ([] : List Int) ++ x19)])))
                                else none)
                              else none))
                      else some (.inl ((x5, x6, IntKind.i64.wrap (x7 + (1 : Int))), (x8, x9, x10, x11), (x12, x13, x14, x15), x16)))))
              else some (.inr (((x12, x13, x14, x15), 0), x16)))
              ((x1, x2, 0), (0, 0, 0, 0), ((x1.length : Int), x3, (x2.length : Int), x4), [])))))
  else some (((0, 0, 0, 0), 4), [])
def torporref28_Diff : ((List Int) × List Int) → Option (((Int × Int × Int × Int) × Int) × List (Int × List Int)) := torporref28_Diff_g LOOPx torporref03_Sum torporref28_Block
theorem torporref28_Diff_ok : FnOK Go.Proofs.Try.prog fn_torporref28_Diff sg_torporref28_Diff torporref28_Diff := fn_of (P := Go.Proofs.Try.prog) (f := fn_torporref28_Diff) (sg := sg_torporref28_Diff) (sgs := [(fn_torporref03_Sum, sg_torporref03_Sum), (fn_torporref28_Block, sg_torporref28_Block)]) (Gd := fun LP gs => torporref28_Diff_g LP gs.1 gs.2.1) (hn := []) (h := [(16, false, ⟨[(0, .vs 0 (.int .u8)), (1, .vs 0 (.int .u8)), (4, .pt 0 0), (6, .pt 1 0), (7, .it .i64)], [.va [.it .i64, .it .u32, .it .i64, .it .u32, .sn], .va [.it .i64, .it .u32, .it .i64, .it .u32, .gr 2], .gs true (.pr (.int .i64) (.sl (.int .u8)))]⟩)]) (torporref03_Sum, torporref28_Block, ()) ⟨torporref03_Sum_ok, torporref28_Block_ok, trivial⟩ (by kernel_rfl) (by kernel_rfl)
abbrev fn_torporref28_find : FuncId := 36
def sg_torporref28_find : Sig := ⟨⟨[(0, .ag [.it .i64, .it .u32, .it .i64, .it .u32, .vs 0 (.pr (.int .i64) (.sl (.int .u8)))]), (1, .it .i64)], []⟩, [⟨[(0, .vs 0 (.int .u8))], []⟩]⟩
def torporref28_find_g (LP : LPT) : ((Int × Int × Int × Int × List (Int × List Int)) × Int) → Option (List Int) := fun ((x1, x2, x3, x4, x5), x6) =>
  LP ((Int × Int) × Int × Int × Int × Int × List (Int × List Int)) (List Int) (fun ((x7, x8), x9, x10, x11, x12, x13) =>
    bif decide (x8 < (x13.length : Int)) then 
        (bif decide (0 ≤ x8) && decide (x8 < (x13.length : Int)) then 
          (bif decide (((Ty.at (.pr (.int .i64) (.sl (.int .u8))) x13 x8.toNat).1) = x7) then 
              (bif decide (0 ≤ x8) && decide (x8 < (x13.length : Int)) then some (.inr ((Ty.at (.pr (.int .i64) (.sl (.int .u8))) x13 x8.toNat).2))
                else none)
          else some (.inl ((x7, IntKind.i64.wrap (x8 + (1 : Int))), x9, x10, x11, x12, x13)))
          else none)
    else some (.inr ([])))
    ((x6, 0), x1, x2, x3, x4, x5)
def torporref28_find : ((Int × Int × Int × Int × List (Int × List Int)) × Int) → Option (List Int) := torporref28_find_g LOOPx
theorem torporref28_find_ok : FnOK Go.Proofs.Try.prog fn_torporref28_find sg_torporref28_find torporref28_find := fn_of (P := Go.Proofs.Try.prog) (f := fn_torporref28_find) (sg := sg_torporref28_find) (sgs := []) (Gd := fun LP gs => torporref28_find_g LP) (hn := []) (h := [(6, false, ⟨[(1, .it .i64), (2, .pt 0 0), (5, .it .i64)], [.va [.it .i64, .it .u32, .it .i64, .it .u32, .vs 0 (.pr (.int .i64) (.sl (.int .u8)))]]⟩)]) (()) trivial (by kernel_rfl) (by kernel_rfl)
abbrev fn_torporref28_Apply : FuncId := 16
def sg_torporref28_Apply : Sig := ⟨⟨[(0, .vs 0 (.int .u8)), (1, .ag [.it .i64, .it .u32, .it .i64, .it .u32, .vs 0 (.pr (.int .i64) (.sl (.int .u8)))])], []⟩, [⟨[(0, .gr 0), (1, .it .i64)], [.gs true (.int .u8)]⟩]⟩
def torporref28_Apply_g (LP : LPT) (torporref03_Sum : (List Int) → Option (Int)) (torporref28_Block : ((List Int) × Int) → Option (List Int)) (torporref28_size : (Int × Int) → Option (Int)) (torporref28_Right : (Int × Int × Int × Int × List (Int × List Int)) → Option (Bool)) (torporref28_find : ((Int × Int × Int × Int × List (Int × List Int)) × Int) → Option (List Int)) : ((List Int) × Int × Int × Int × Int × List (Int × List Int)) → Option (Int × List Int) := fun (x1, x2, x3, x4, x5, x6) =>
  (torporref28_Right (x2, x3, x4, x5, x6)).bind fun x7 => 
    (bif !x7 then some (3, [])
    else 
      (bif !(!decide ((x1.length : Int) = x2)) then 
          ((torporref03_Sum x1).bind fun x8 => 
            (bif !decide (x8 = x3) then some (9, [])
            else 
              (Option.bind (α := ((Int × Int × Int × Int × List (Int × List Int)) × List Int) ⊕ (Int × List Int)) (β := Int × List Int) (LP (((List Int) × Int) × (Int × Int × Int × Int × List (Int × List Int)) × List Int) (((Int × Int × Int × Int × List (Int × List Int)) × List Int) ⊕ (Int × List Int)) (fun ((x9, x10), (x11, x12, x13, x14, x15), x16) =>
                  bif decide ((IntKind.i64.wrap ((16 : Int) * x10)) < x13) then 
                      ((torporref28_find ((x11, x12, x13, x14, x15), x10)).bind fun x17 => 
                        (Option.bind (α := (((List Int) × Int × List Int) × (Int × Int × Int × Int × List (Int × List Int)) × List Int) ⊕ ((((List Int) × Int) × (Int × Int × Int × Int × List (Int × List Int)) × List Int) ⊕ (((Int × Int × Int × Int × List (Int × List Int)) × List Int) ⊕ (Int × List Int)))) (β := (((List Int) × Int) × (Int × Int × Int × Int × List (Int × List Int)) × List Int) ⊕ (((Int × Int × Int × Int × List (Int × List Int)) × List Int) ⊕ (Int × List Int))) (bif decide ((x17.length : Int) = (0 : Int)) then 
                              ((torporref28_Block (x9, x10)).bind fun x18 => some (.inl ((x9, x10, x18), (x11, x12, x13, x14, x15), x16)))
                          else some (.inl ((x9, x10, x17), (x11, x12, x13, x14, x15), x16)))
                          fun z => match z with
                          | .inl ((x19, x20, x21), (x22, x23, x24, x25, x26), x27) => (torporref28_size (x24, x20)).bind fun x28 => 
                              (bif !decide ((x21.length : Int) = x28) then some (.inr (.inr (3, [])))
                              else 
                                (bif decide ((x27.length + x21.length) * 1 ≤ 140737488355328) then some (.inl ((x19, IntKind.i64.wrap (x20 + (1 : Int))), (x22, x23, x24, x25, x26), x27 ++ x21))
                                  else none))
                          | .inr o => some o))
                  else some (.inr (.inl ((x11, x12, x13, x14, x15), x16))))
                  ((x1, 0), (x2, x3, x4, x5, x6), []))
                fun z => match z with
                | .inl ((x29, x30, x31, x32, x33), x34) => (torporref03_Sum x34).bind fun x35 => 
                    (bif !decide (x35 = x32) then some (5, [])
                    else some (0, x34))
                | .inr o => some o)))
      else some (9, [])))
def torporref28_Apply : ((List Int) × Int × Int × Int × Int × List (Int × List Int)) → Option (Int × List Int) := torporref28_Apply_g LOOPx torporref03_Sum torporref28_Block torporref28_size torporref28_Right torporref28_find
theorem torporref28_Apply_ok : FnOK Go.Proofs.Try.prog fn_torporref28_Apply sg_torporref28_Apply torporref28_Apply := fn_of (P := Go.Proofs.Try.prog) (f := fn_torporref28_Apply) (sg := sg_torporref28_Apply) (sgs := [(fn_torporref03_Sum, sg_torporref03_Sum), (fn_torporref28_Block, sg_torporref28_Block), (fn_torporref28_size, sg_torporref28_size), (fn_torporref28_Right, sg_torporref28_Right), (fn_torporref28_find, sg_torporref28_find)]) (Gd := fun LP gs => torporref28_Apply_g LP gs.1 gs.2.1 gs.2.2.1 gs.2.2.2.1 gs.2.2.2.2.1) (hn := []) (h := [(21, true, ⟨[(3, .pt 0 0), (6, .gr 1)], [.va [.it .i64, .it .u32, .it .i64, .it .u32, .vs 0 (.pr (.int .i64) (.sl (.int .u8)))], .gs true (.int .u8)]⟩), (24, false, ⟨[(0, .vs 0 (.int .u8)), (3, .pt 0 0), (6, .gr 1), (7, .it .i64)], [.va [.it .i64, .it .u32, .it .i64, .it .u32, .vs 0 (.pr (.int .i64) (.sl (.int .u8)))], .gs true (.int .u8)]⟩), (36, true, ⟨[(0, .vs 0 (.int .u8)), (3, .pt 0 0), (6, .gr 1), (7, .it .i64), (8, .vs 0 (.int .u8))], [.va [.it .i64, .it .u32, .it .i64, .it .u32, .vs 0 (.pr (.int .i64) (.sl (.int .u8)))], .gs true (.int .u8)]⟩)]) (torporref03_Sum, torporref28_Block, torporref28_size, torporref28_Right, torporref28_find, ()) ⟨torporref03_Sum_ok, torporref28_Block_ok, torporref28_size_ok, torporref28_Right_ok, torporref28_find_ok, trivial⟩ (by kernel_rfl) (by kernel_rfl)
abbrev fn_torporref28_Chain : FuncId := 25
def sg_torporref28_Chain : Sig := ⟨⟨[(0, .vs 0 (.int .u8)), (1, .vs 0 (.pr (.int .i64) (.pr (.int .u32) (.pr (.int .i64) (.pr (.int .u32) (.sl (.pr (.int .i64) (.sl (.int .u8)))))))))], []⟩, [⟨[(0, .gr 0), (1, .it .i64)], [.gs true (.int .u8)]⟩]⟩
def torporref28_Chain_g (LP : LPT) (torporref28_Apply : ((List Int) × Int × Int × Int × Int × List (Int × List Int)) → Option (Int × List Int)) : ((List Int) × List (Int × Int × Int × Int × List (Int × List Int))) → Option (Int × List Int) := fun (x1, x2) =>
  bif decide ((([] : List Int).length + x1.length) * 1 ≤ 140737488355328) then 
    (LP (((List (Int × Int × Int × Int × List (Int × List Int))) × Int) × List Int) (Int × List Int) (fun ((x3, x4), x5) =>
      bif decide (x4 < (x3.length : Int)) then 
          (bif decide (0 ≤ x4) && decide (x4 < (x3.length : Int)) then 
            ((torporref28_Apply (x5, (Ty.at (.pr (.int .i64) (.pr (.int .u32) (.pr (.int .i64) (.pr (.int .u32) (.sl (.pr (.int .i64) (.sl (.int .u8)))))))) x3 x4.toNat).1, ((Ty.at (.pr (.int .i64) (.pr (.int .u32) (.pr (.int .i64) (.pr (.int .u32) (.sl (.pr (.int .i64) (.sl (.int .u8)))))))) x3 x4.toNat).2).1, (((Ty.at (.pr (.int .i64) (.pr (.int .u32) (.pr (.int .i64) (.pr (.int .u32) (.sl (.pr (.int .i64) (.sl (.int .u8)))))))) x3 x4.toNat).2).2).1, ((((Ty.at (.pr (.int .i64) (.pr (.int .u32) (.pr (.int .i64) (.pr (.int .u32) (.sl (.pr (.int .i64) (.sl (.int .u8)))))))) x3 x4.toNat).2).2).2).1, ((((Ty.at (.pr (.int .i64) (.pr (.int .u32) (.pr (.int .i64) (.pr (.int .u32) (.sl (.pr (.int .i64) (.sl (.int .u8)))))))) x3 x4.toNat).2).2).2).2)).bind fun (x6, x7) => 
              (bif !decide (x6 = (0 : Int)) then some (.inr (x6, []))
              else some (.inl ((x3, IntKind.i64.wrap (x4 + (1 : Int))), x7))))
            else none)
      else some (.inr (0, x5)))
      ((x2, 0), ([] : List Int) ++ x1))
    else none
def torporref28_Chain : ((List Int) × List (Int × Int × Int × Int × List (Int × List Int))) → Option (Int × List Int) := torporref28_Chain_g LOOPx torporref28_Apply
theorem torporref28_Chain_ok : FnOK Go.Proofs.Try.prog fn_torporref28_Chain sg_torporref28_Chain torporref28_Chain := fn_of (P := Go.Proofs.Try.prog) (f := fn_torporref28_Chain) (sg := sg_torporref28_Chain) (sgs := [(fn_torporref28_Apply, sg_torporref28_Apply)]) (Gd := fun LP gs => torporref28_Chain_g LP gs.1) (hn := []) (h := [(8, false, ⟨[(1, .vs 0 (.pr (.int .i64) (.pr (.int .u32) (.pr (.int .i64) (.pr (.int .u32) (.sl (.pr (.int .i64) (.sl (.int .u8))))))))), (6, .gr 0), (7, .it .i64)], [.gs true (.int .u8)]⟩)]) (torporref28_Apply, ()) ⟨torporref28_Apply_ok, trivial⟩ (by kernel_rfl) (by kernel_rfl)
abbrev fn_torporref28_Compact : FuncId := 21
def sg_torporref28_Compact : Sig := ⟨⟨[(0, .ag [.it .i64, .it .u32, .it .i64, .it .u32, .vs 0 (.pr (.int .i64) (.sl (.int .u8)))]), (1, .ag [.it .i64, .it .u32, .it .i64, .it .u32, .vs 0 (.pr (.int .i64) (.sl (.int .u8)))])], []⟩, [⟨[(0, .ag [.it .i64, .it .u32, .it .i64, .it .u32, .gr 0]), (1, .it .i64)], [.gs true (.pr (.int .i64) (.sl (.int .u8)))]⟩]⟩
def torporref28_Compact_g (LP : LPT) (torporref28_size : (Int × Int) → Option (Int)) (torporref28_Right : (Int × Int × Int × Int × List (Int × List Int)) → Option (Bool)) (torporref28_find : ((Int × Int × Int × Int × List (Int × List Int)) × Int) → Option (List Int)) : ((Int × Int × Int × Int × List (Int × List Int)) × Int × Int × Int × Int × List (Int × List Int)) → Option (((Int × Int × Int × Int) × Int) × List (Int × List Int)) := fun ((x1, x2, x3, x4, x5), x6, x7, x8, x9, x10) =>
  (torporref28_Right (x1, x2, x3, x4, x5)).bind fun x11 => 
    (bif !(!x11) then 
        ((torporref28_Right (x6, x7, x8, x9, x10)).bind fun x12 => 
          (bif !x12 then some (((0, 0, 0, 0), 3), [])
          else 
            (bif !(!decide (x3 = x6)) then 
                (bif !decide (x4 = x7) then some (((0, 0, 0, 0), 9), [])
                else 
                  (LP (Int × (Int × Int × Int × Int × List (Int × List Int)) × (Int × Int × Int × Int × List (Int × List Int)) × (Int × Int × Int × Int) × (Int × Int × Int × Int) × List (Int × List Int)) (((Int × Int × Int × Int) × Int) × List (Int × List Int)) (fun (x13, (x14, x15, x16, x17, x18), (x19, x20, x21, x22, x23), (x24, x25, x26, x27), (x28, x29, x30, x31), x32) =>
                    bif decide ((IntKind.i64.wrap ((16 : Int) * x13)) < x21) then 
                        ((torporref28_find ((x19, x20, x21, x22, x23), x13)).bind fun x33 => 
                          (Option.bind (α := ((Int × List Int) × (Int × Int × Int × Int × List (Int × List Int)) × (Int × Int × Int × Int × List (Int × List Int)) × (Int × Int × Int × Int) × (Int × Int × Int × Int) × List (Int × List Int)) ⊕ ((Int × (Int × Int × Int × Int × List (Int × List Int)) × (Int × Int × Int × Int × List (Int × List Int)) × (Int × Int × Int × Int) × (Int × Int × Int × Int) × List (Int × List Int)) ⊕ (((Int × Int × Int × Int) × Int) × List (Int × List Int)))) (β := (Int × (Int × Int × Int × Int × List (Int × List Int)) × (Int × Int × Int × Int × List (Int × List Int)) × (Int × Int × Int × Int) × (Int × Int × Int × Int) × List (Int × List Int)) ⊕ (((Int × Int × Int × Int) × Int) × List (Int × List Int))) (Option.bind (α := ((Int × (List Int) × Bool) × (Int × Int × Int × Int × List (Int × List Int)) × (Int × Int × Int × Int × List (Int × List Int)) × (Int × Int × Int × Int) × (Int × Int × Int × Int) × List (Int × List Int)) ⊕ (((Int × List Int) × (Int × Int × Int × Int × List (Int × List Int)) × (Int × Int × Int × Int × List (Int × List Int)) × (Int × Int × Int × Int) × (Int × Int × Int × Int) × List (Int × List Int)) ⊕ ((Int × (Int × Int × Int × Int × List (Int × List Int)) × (Int × Int × Int × Int × List (Int × List Int)) × (Int × Int × Int × Int) × (Int × Int × Int × Int) × List (Int × List Int)) ⊕ (((Int × Int × Int × Int) × Int) × List (Int × List Int))))) (β := ((Int × List Int) × (Int × Int × Int × Int × List (Int × List Int)) × (Int × Int × Int × Int × List (Int × List Int)) × (Int × Int × Int × Int) × (Int × Int × Int × Int) × List (Int × List Int)) ⊕ ((Int × (Int × Int × Int × Int × List (Int × List Int)) × (Int × Int × Int × Int × List (Int × List Int)) × (Int × Int × Int × Int) × (Int × Int × Int × Int) × List (Int × List Int)) ⊕ (((Int × Int × Int × Int) × Int) × List (Int × List Int)))) (bif decide ((x33.length : Int) = (0 : Int)) then 
                                  ((torporref28_find ((x14, x15, x16, x17, x18), x13)).bind fun x34 => 
                                    ((torporref28_size (x21, x13)).bind fun x35 => some (.inl ((x13, x33, decide ((x34.length : Int) = x35)), (x14, x15, x16, x17, x18), (x19, x20, x21, x22, x23), (x24, x25, x26, x27), (x28, x29, x30, x31), x32))))
                              else some (.inl ((x13, x33, false), (x14, x15, x16, x17, x18), (x19, x20, x21, x22, x23), (x24, x25, x26, x27), (x28, x29, x30, x31), x32)))
                              fun z => match z with
                              | .inl ((x36, x37, x38), (x39, x40, x41, x42, x43), (x44, x45, x46, x47, x48), (x49, x50, x51, x52), (x53, x54, x55, x56), x57) => bif x38 then 
                                    ((torporref28_find ((x39, x40, x41, x42, x43), x36)).bind fun x58 => some (.inl ((x36, x58), (x39, x40, x41, x42, x43), (x44, x45, x46, x47, x48), (x49, x50, x51, x52), (x53, x54, x55, x56), x57)))
                                else some (.inl ((x36, x37), (x39, x40, x41, x42, x43), (x44, x45, x46, x47, x48), (x49, x50, x51, x52), (x53, x54, x55, x56), x57))
                              | .inr o => some o)
                            fun z => match z with
                            | .inl ((x59, x60), (x61, x62, x63, x64, x65), (x66, x67, x68, x69, x70), (x71, x72, x73, x74), (x75, x76, x77, x78), x79) => bif decide ((0 : Int) < (x60.length : Int)) then 
                                  (bif decide ((x79.length + ([(x59, x60)]).length) * 32 ≤ 140737488355328) then some (.inl (IntKind.i64.wrap (x59 + (1 : Int)), (x61, x62, x63, x64, x65), (x66, x67, x68, x69, x70), (x71, x72, x73, x74), (x75, x76, x77, x78), x79 ++ ([(x59, x60)])))
                                    else none)
                              else some (.inl (IntKind.i64.wrap (x59 + (1 : Int)), (x61, x62, x63, x64, x65), (x66, x67, x68, x69, x70), (x71, x72, x73, x74), (x75, x76, x77, x78), x79))
                            | .inr o => some o))
                    else some (.inr (((x28, x29, x30, x31), 0), x32)))
                    (0, (x1, x2, x3, x4, x5), (x6, x7, x8, x9, x10), (0, 0, 0, 0), (x1, x2, x8, x9), [])))
            else some (((0, 0, 0, 0), 9), []))))
    else some (((0, 0, 0, 0), 3), []))
def torporref28_Compact : ((Int × Int × Int × Int × List (Int × List Int)) × Int × Int × Int × Int × List (Int × List Int)) → Option (((Int × Int × Int × Int) × Int) × List (Int × List Int)) := torporref28_Compact_g LOOPx torporref28_size torporref28_Right torporref28_find
theorem torporref28_Compact_ok : FnOK Go.Proofs.Try.prog fn_torporref28_Compact sg_torporref28_Compact torporref28_Compact := fn_of (P := Go.Proofs.Try.prog) (f := fn_torporref28_Compact) (sg := sg_torporref28_Compact) (sgs := [(fn_torporref28_size, sg_torporref28_size), (fn_torporref28_Right, sg_torporref28_Right), (fn_torporref28_find, sg_torporref28_find)]) (Gd := fun LP gs => torporref28_Compact_g LP gs.1 gs.2.1 gs.2.2.1) (hn := []) (h := [(24, false, ⟨[(2, .pt 0 0), (3, .pt 1 0), (4, .pt 2 0), (6, .pt 3 0), (7, .it .i64)], [.va [.it .i64, .it .u32, .it .i64, .it .u32, .vs 0 (.pr (.int .i64) (.sl (.int .u8)))], .va [.it .i64, .it .u32, .it .i64, .it .u32, .vs 0 (.pr (.int .i64) (.sl (.int .u8)))], .va [.it .i64, .it .u32, .it .i64, .it .u32, .sn], .va [.it .i64, .it .u32, .it .i64, .it .u32, .gr 4], .gs true (.pr (.int .i64) (.sl (.int .u8)))]⟩), (36, true, ⟨[(2, .pt 0 0), (3, .pt 1 0), (4, .pt 2 0), (6, .pt 3 0), (7, .it .i64), (8, .vs 0 (.int .u8))], [.va [.it .i64, .it .u32, .it .i64, .it .u32, .vs 0 (.pr (.int .i64) (.sl (.int .u8)))], .va [.it .i64, .it .u32, .it .i64, .it .u32, .vs 0 (.pr (.int .i64) (.sl (.int .u8)))], .va [.it .i64, .it .u32, .it .i64, .it .u32, .sn], .va [.it .i64, .it .u32, .it .i64, .it .u32, .gr 4], .gs true (.pr (.int .i64) (.sl (.int .u8)))]⟩), (37, true, ⟨[(2, .pt 0 0), (3, .pt 1 0), (4, .pt 2 0), (6, .pt 3 0), (7, .it .i64), (8, .vs 0 (.int .u8)), (63, .bo)], [.va [.it .i64, .it .u32, .it .i64, .it .u32, .vs 0 (.pr (.int .i64) (.sl (.int .u8)))], .va [.it .i64, .it .u32, .it .i64, .it .u32, .vs 0 (.pr (.int .i64) (.sl (.int .u8)))], .va [.it .i64, .it .u32, .it .i64, .it .u32, .sn], .va [.it .i64, .it .u32, .it .i64, .it .u32, .gr 4], .gs true (.pr (.int .i64) (.sl (.int .u8)))]⟩)]) (torporref28_size, torporref28_Right, torporref28_find, ()) ⟨torporref28_size_ok, torporref28_Right_ok, torporref28_find_ok, trivial⟩ (by kernel_rfl) (by kernel_rfl)
abbrev fn_torporref28_num : FuncId := 41
def sg_torporref28_num : Sig := ⟨⟨[(0, .it .i64)], []⟩, [⟨[(0, .gr 0)], [.gs true (.int .u8)]⟩]⟩
def torporref28_num_g (LP : LPT) (torporref02_Bytes : Int → Option (List Int)) (torporref02_Zig : Int → Option (Int)) : Int → Option (List Int) := fun x1 =>
  (torporref02_Zig x1).bind fun x2 => 
    ((torporref02_Bytes x2).bind fun x3 => some x3)
def torporref28_num : Int → Option (List Int) := torporref28_num_g LOOPx torporref02_Bytes torporref02_Zig
theorem torporref28_num_ok : FnOK Go.Proofs.Try.prog fn_torporref28_num sg_torporref28_num torporref28_num := fn_of (P := Go.Proofs.Try.prog) (f := fn_torporref28_num) (sg := sg_torporref28_num) (sgs := [(fn_torporref02_Bytes, sg_torporref02_Bytes), (fn_torporref02_Zig, sg_torporref02_Zig)]) (Gd := fun LP gs => torporref28_num_g LP gs.1 gs.2.1) (hn := []) (h := []) (torporref02_Bytes, torporref02_Zig, ()) ⟨torporref02_Bytes_ok, torporref02_Zig_ok, trivial⟩ (by kernel_rfl) (by kernel_rfl)
abbrev fn_torporref28_Encode : FuncId := 18
def sg_torporref28_Encode : Sig := ⟨⟨[(0, .ag [.it .i64, .it .u32, .it .i64, .it .u32, .vs 0 (.pr (.int .i64) (.sl (.int .u8)))])], []⟩, [⟨[(0, .gr 0), (1, .it .i64)], [.gs true (.int .u8)]⟩]⟩
def torporref28_Encode_g (LP : LPT) (torporref01_Put : ((List Int) × Int × Int) → Option (Int × List Int)) (torporref04_All : (List (Int × List Int)) → Option (Int × List Int)) (torporref28_Right : (Int × Int × Int × Int × List (Int × List Int)) → Option (Bool)) (torporref28_num : Int → Option (List Int)) : (Int × Int × Int × Int × List (Int × List Int)) → Option (Int × List Int) := fun (x1, x2, x3, x4, x5) =>
  (torporref28_Right (x1, x2, x3, x4, x5)).bind fun x6 => 
    (bif !x6 then some (3, [])
    else 
      ((torporref28_num x1).bind fun x7 => 
        ((torporref28_num x3).bind fun x8 => 
          (bif decide ((x7.length + x8.length) * 1 ≤ 140737488355328) then 
            ((torporref01_Put (x7 ++ x8, IntKind.u64.wrap x2, 4)).bind fun (x9, x10) => 
              ((torporref01_Put (x10, IntKind.u64.wrap x4, 4)).bind fun (x11, x12) => 
                ((torporref28_num (x5.length : Int)).bind fun x13 => 
                  (Option.bind (α := ((List Int) × List Int) ⊕ (Int × List Int)) (β := Int × List Int) (LP (Int × (Int × Int × Int × Int × List (Int × List Int)) × (List Int) × List Int) (((List Int) × List Int) ⊕ (Int × List Int)) (fun (x14, (x15, x16, x17, x18, x19), x20, x21) =>
                      bif decide (x14 < (x19.length : Int)) then 
                          (bif decide (0 ≤ x14) && decide (x14 < (x19.length : Int)) then 
                            (bif decide (0 ≤ x14) && decide (x14 < (x19.length : Int)) then 
                              ((torporref28_num ((Ty.at (.pr (.int .i64) (.sl (.int .u8))) x19 x14.toNat).1)).bind fun x22 => 
                                (bif decide ((x21.length + x22.length) * 1 ≤ 140737488355328) then 
                                  (bif decide (((x21 ++ x22).length + ((Ty.at (.pr (.int .i64) (.sl (.int .u8))) x19 x14.toNat).2).length) * 1 ≤ 140737488355328) then some (.inl (IntKind.i64.wrap (x14 + (1 : Int)), (x15, x16, x17, x18, x19), x20, (x21 ++ x22) ++ ((Ty.at (.pr (.int .i64) (.sl (.int .u8))) x19 x14.toNat).2)))
                                    else none)
                                  else none))
                              else none)
                            else none)
                      else some (.inr (.inl (x20, x21))))
                      (0, (x1, x2, x3, x4, x5), x12, x13))
                    fun z => match z with
                    | .inl (x23, x24) => (torporref04_All ([(1, x23), (2, x24)])).bind fun (x25, x26) => some (x25, x26)
                    | .inr o => some o))))
            else none))))
def torporref28_Encode : (Int × Int × Int × Int × List (Int × List Int)) → Option (Int × List Int) := torporref28_Encode_g LOOPx torporref01_Put torporref04_All torporref28_Right torporref28_num
theorem torporref28_Encode_ok : FnOK Go.Proofs.Try.prog fn_torporref28_Encode sg_torporref28_Encode torporref28_Encode := fn_of (P := Go.Proofs.Try.prog) (f := fn_torporref28_Encode) (sg := sg_torporref28_Encode) (sgs := [(fn_torporref01_Put, sg_torporref01_Put), (fn_torporref04_All, sg_torporref04_All), (fn_torporref28_Right, sg_torporref28_Right), (fn_torporref28_num, sg_torporref28_num)]) (Gd := fun LP gs => torporref28_Encode_g LP gs.1 gs.2.1 gs.2.2.1 gs.2.2.2.1) (hn := []) (h := [(19, true, ⟨[(4, .gr 0), (5, .gr 1)], [.gs true (.int .u8), .gs true (.int .u8)]⟩), (22, false, ⟨[(1, .pt 0 0), (4, .gr 1), (5, .gr 2), (6, .it .i64)], [.va [.it .i64, .it .u32, .it .i64, .it .u32, .vs 0 (.pr (.int .i64) (.sl (.int .u8)))], .gs true (.int .u8), .gs true (.int .u8)]⟩)]) (torporref01_Put, torporref04_All, torporref28_Right, torporref28_num, ()) ⟨torporref01_Put_ok, torporref04_All_ok, torporref28_Right_ok, torporref28_num_ok, trivial⟩ (by kernel_rfl) (by kernel_rfl)
abbrev fn_torporref28_head : FuncId := 54
def sg_torporref28_head : Sig := ⟨⟨[(0, .vs 0 (.int .u8))], []⟩, [⟨[(0, .ag [.it .i64, .it .u32, .it .i64, .it .u32, .sn]), (1, .bo)], []⟩]⟩
def torporref28_head_g (LP : LPT) (torporref01_Take : ((List Int) × Int × Int) → Option (Int × Int × Int)) (torporref02_ReadInt : ((List Int) × Int) → Option (Int × Int × Int)) : (List Int) → Option ((Int × Int × Int × Int) × Bool) := fun x1 =>
  (torporref02_ReadInt (x1, 0)).bind fun (x2, x3, x4) => 
    (bif !decide (x4 = (0 : Int)) then some ((0, 0, 0, 0), false)
    else 
      ((torporref02_ReadInt (x1, x3)).bind fun (x5, x6, x7) => 
        (bif !(!decide (x7 = (0 : Int))) then 
            (bif !decide ((x1.length : Int) = (IntKind.i64.wrap (x6 + (8 : Int)))) then some ((0, 0, 0, 0), false)
            else 
              ((torporref01_Take (x1, x6, 4)).bind fun (x8, x9, x10) => 
                ((torporref01_Take (x1, IntKind.i64.wrap (x6 + (4 : Int)), 4)).bind fun (x11, x12, x13) => 
                  (bif decide ((0 : Int) ≤ x5) then some ((x2, IntKind.u32.wrap x8, x5, IntKind.u32.wrap x11), decide (x5 ≤ (65535 : Int)))
                  else some ((x2, IntKind.u32.wrap x8, x5, IntKind.u32.wrap x11), false)))))
        else some ((0, 0, 0, 0), false))))
def torporref28_head : (List Int) → Option ((Int × Int × Int × Int) × Bool) := torporref28_head_g LOOPx torporref01_Take torporref02_ReadInt
theorem torporref28_head_ok : FnOK Go.Proofs.Try.prog fn_torporref28_head sg_torporref28_head torporref28_head := fn_of (P := Go.Proofs.Try.prog) (f := fn_torporref28_head) (sg := sg_torporref28_head) (sgs := [(fn_torporref01_Take, sg_torporref01_Take), (fn_torporref02_ReadInt, sg_torporref02_ReadInt)]) (Gd := fun LP gs => torporref28_head_g LP gs.1 gs.2.1) (hn := []) (h := []) (torporref01_Take, torporref02_ReadInt, ()) ⟨torporref01_Take_ok, torporref02_ReadInt_ok, trivial⟩ (by kernel_rfl) (by kernel_rfl)
abbrev fn_torporref28_Decode : FuncId := 23
def sg_torporref28_Decode : Sig := ⟨⟨[(0, .vs 0 (.int .u8))], []⟩, [⟨[(0, .ag [.it .i64, .it .u32, .it .i64, .it .u32, .gr 0]), (1, .it .i64)], [.gs true (.pr (.int .i64) (.sl (.int .u8)))]⟩]⟩
def torporref28_Decode_g (LP : LPT) (torporref01_Cut : ((List Int) × Int × Int) → Option ((Int × Int) × List Int)) (torporref04_List : (List Int) → Option (Int × List (Int × List Int))) (torporref02_ReadInt : ((List Int) × Int) → Option (Int × Int × Int)) (torporref28_size : (Int × Int) → Option (Int)) (torporref28_Right : (Int × Int × Int × Int × List (Int × List Int)) → Option (Bool)) (torporref28_head : (List Int) → Option ((Int × Int × Int × Int) × Bool)) : (List Int) → Option (((Int × Int × Int × Int) × Int) × List (Int × List Int)) := fun x1 =>
  (torporref04_List x1).bind fun (x2, x3) => 
    (bif !decide (x2 = (0 : Int)) then some (((0, 0, 0, 0), x2), [])
    else 
      (bif !(!decide ((x3.length : Int) = (2 : Int))) then 
          (bif decide (0 ≤ 0) && decide (0 < (x3.length : Int)) then 
            (bif decide ((0 : Int).toNat < x3.length) then 
              (bif !(!decide (((Ty.at (.pr (.int .u8) (.sl (.int .u8))) x3 ((0 : Int).toNat)).1) = (1 : Int))) then 
                  (bif decide (0 ≤ 1) && decide (1 < (x3.length : Int)) then 
                    (bif decide ((1 : Int).toNat < x3.length) then 
                      (bif !decide (((Ty.at (.pr (.int .u8) (.sl (.int .u8))) x3 ((1 : Int).toNat)).1) = (2 : Int)) then some (((0, 0, 0, 0), 3), [])
                      else 
                        (bif decide (0 ≤ 0) && decide (0 < (x3.length : Int)) then 
                          (bif decide ((0 : Int).toNat < x3.length) then 
                            ((torporref28_head ((Ty.at (.pr (.int .u8) (.sl (.int .u8))) x3 ((0 : Int).toNat)).2)).bind fun ((x4, x5, x6, x7), x8) => 
                              (bif decide (0 ≤ 1) && decide (1 < (x3.length : Int)) then 
                                (bif decide ((1 : Int).toNat < x3.length) then 
                                  ((torporref02_ReadInt ((Ty.at (.pr (.int .u8) (.sl (.int .u8))) x3 ((1 : Int).toNat)).2, 0)).bind fun (x9, x10, x11) => 
                                    (bif !(!x8) then 
                                        (bif !(!decide (x11 = (0 : Int))) then 
                                            (bif !(decide (x9 < (0 : Int))) then 
                                                (bif decide ((5000 : Int) < x9) then some (((0, 0, 0, 0), 3), [])
                                                else 
                                                  (Option.bind (α := (((List Int) × Int) × (Int × Int × Int × Int) × (Int × Int × Int × Int) × List (Int × List Int)) ⊕ (((Int × Int × Int × Int) × Int) × List (Int × List Int))) (β := ((Int × Int × Int × Int) × Int) × List (Int × List Int)) (LP (((List Int) × Int × Int × Int) × (Int × Int × Int × Int) × (Int × Int × Int × Int) × List (Int × List Int)) ((((List Int) × Int) × (Int × Int × Int × Int) × (Int × Int × Int × Int) × List (Int × List Int)) ⊕ (((Int × Int × Int × Int) × Int) × List (Int × List Int))) (fun ((x12, x13, x14, x15), (x16, x17, x18, x19), (x20, x21, x22, x23), x24) =>
                                                      bif decide (x15 < x13) then 
                                                          ((torporref02_ReadInt (x12, x14)).bind fun (x25, x26, x27) => 
                                                            (bif !decide (x27 = (0 : Int)) then some (.inr (.inr (((0, 0, 0, 0), 3), [])))
                                                            else 
                                                              ((torporref28_size (x22, x25)).bind fun x28 => 
                                                                ((torporref01_Cut (x12, x26, x28)).bind fun ((x29, x30), x31) => 
                                                                  (bif !decide (x30 = (0 : Int)) then some (.inr (.inr (((0, 0, 0, 0), 3), [])))
                                                                  else 
                                                                    (bif decide ((x24.length + ([(x25, x31)]).length) * 32 ≤ 140737488355328) then some (.inl ((x12, x13, x29, IntKind.i64.wrap (x15 + (1 : Int))), (x16, x17, x18, x19), (x20, x21, x22, x23), x24 ++ ([(x25, x31)])))
                                                                      else none))))))
                                                      else some (.inr (.inl ((x12, x14), (x16, x17, x18, x19), (x20, x21, x22, x23), x24))))
                                                      (((Ty.at (.pr (.int .u8) (.sl (.int .u8))) x3 ((1 : Int).toNat)).2, x9, x10, 0), (0, 0, 0, 0), (x4, x5, x6, x7), []))
                                                    fun z => match z with
                                                    | .inl ((x32, x33), (x34, x35, x36, x37), (x38, x39, x40, x41), x42) => bif !(!decide (x33 = (x32.length : Int))) then 
                                                          ((torporref28_Right (x38, x39, x40, x41, x42)).bind fun x43 => 
                                                            (bif !x43 then some (((0, 0, 0, 0), 3), [])
                                                            else some (((x38, x39, x40, x41), 0), x42)))
                                                      else some (((0, 0, 0, 0), 3), [])
                                                    | .inr o => some o))
                                            else some (((0, 0, 0, 0), 3), []))
                                        else some (((0, 0, 0, 0), 3), []))
                                    else some (((0, 0, 0, 0), 3), [])))
                                  else none)
                                else none))
                            else none)
                          else none))
                      else none)
                    else none)
              else some (((0, 0, 0, 0), 3), []))
              else none)
            else none)
      else some (((0, 0, 0, 0), 3), [])))
def torporref28_Decode : (List Int) → Option (((Int × Int × Int × Int) × Int) × List (Int × List Int)) := torporref28_Decode_g LOOPx torporref01_Cut torporref04_List torporref02_ReadInt torporref28_size torporref28_Right torporref28_head
theorem torporref28_Decode_ok : FnOK Go.Proofs.Try.prog fn_torporref28_Decode sg_torporref28_Decode torporref28_Decode := fn_of (P := Go.Proofs.Try.prog) (f := fn_torporref28_Decode) (sg := sg_torporref28_Decode) (sgs := [(fn_torporref01_Cut, sg_torporref01_Cut), (fn_torporref04_List, sg_torporref04_List), (fn_torporref02_ReadInt, sg_torporref02_ReadInt), (fn_torporref28_size, sg_torporref28_size), (fn_torporref28_Right, sg_torporref28_Right), (fn_torporref28_head, sg_torporref28_head)]) (Gd := fun LP gs => torporref28_Decode_g LP gs.1 gs.2.1 gs.2.2.1 gs.2.2.2.1 gs.2.2.2.2.1 gs.2.2.2.2.2.1) (hn := []) (h := [(35, true, ⟨[(2, .pt 0 0), (6, .pt 1 0), (8, .vs 0 (.int .u8)), (10, .it .i64)], [.va [.it .i64, .it .u32, .it .i64, .it .u32, .sn], .va [.it .i64, .it .u32, .it .i64, .it .u32, .gr 2], .gs true (.pr (.int .i64) (.sl (.int .u8)))]⟩), (38, false, ⟨[(2, .pt 0 0), (6, .pt 1 0), (8, .vs 0 (.int .u8)), (9, .it .i64), (10, .it .i64), (12, .it .i64)], [.va [.it .i64, .it .u32, .it .i64, .it .u32, .sn], .va [.it .i64, .it .u32, .it .i64, .it .u32, .gr 2], .gs true (.pr (.int .i64) (.sl (.int .u8)))]⟩)]) (torporref01_Cut, torporref04_List, torporref02_ReadInt, torporref28_size, torporref28_Right, torporref28_head, ()) ⟨torporref01_Cut_ok, torporref04_List_ok, torporref02_ReadInt_ok, torporref28_size_ok, torporref28_Right_ok, torporref28_head_ok, trivial⟩ (by kernel_rfl) (by kernel_rfl)
abbrev fn_torporref28_Same : FuncId := 13
def sg_torporref28_Same : Sig := ⟨⟨[(0, .ag [.it .i64, .it .u32, .it .i64, .it .u32, .vs 0 (.pr (.int .i64) (.sl (.int .u8)))]), (1, .ag [.it .i64, .it .u32, .it .i64, .it .u32, .vs 0 (.pr (.int .i64) (.sl (.int .u8)))])], []⟩, [⟨[(0, .bo)], []⟩]⟩
def torporref28_Same_g (LP : LPT) : ((Int × Int × Int × Int × List (Int × List Int)) × Int × Int × Int × Int × List (Int × List Int)) → Option (Bool) := fun ((x1, x2, x3, x4, x5), x6, x7, x8, x9, x10) =>
  bif !(!decide (x1 = x6)) then 
      (bif !(!decide (x2 = x7)) then 
          (bif !(!decide (x3 = x8)) then 
              (bif !(!decide (x4 = x9)) then 
                  (bif !decide ((x5.length : Int) = (x10.length : Int)) then some false
                  else 
                    (LP (Int × (Int × Int × Int × Int × List (Int × List Int)) × Int × Int × Int × Int × List (Int × List Int)) (Bool) (fun (x11, (x12, x13, x14, x15, x16), x17, x18, x19, x20, x21) =>
                      bif decide (x11 < (x16.length : Int)) then 
                          (bif decide (0 ≤ x11) && decide (x11 < (x16.length : Int)) then 
                            (bif decide (0 ≤ x11) && decide (x11 < (x21.length : Int)) then 
                              (bif !(!decide (((Ty.at (.pr (.int .i64) (.sl (.int .u8))) x16 x11.toNat).1) = ((Ty.at (.pr (.int .i64) (.sl (.int .u8))) x21 x11.toNat).1))) then 
                                  (bif decide (0 ≤ x11) && decide (x11 < (x16.length : Int)) then 
                                    (bif decide (0 ≤ x11) && decide (x11 < (x21.length : Int)) then 
                                      (bif !((bst ((Ty.at (.pr (.int .i64) (.sl (.int .u8))) x16 x11.toNat).2)).toList == (bst ((Ty.at (.pr (.int .i64) (.sl (.int .u8))) x21 x11.toNat).2)).toList) then some (.inr false)
                                      else some (.inl (IntKind.i64.wrap (x11 + (1 : Int)), (x12, x13, x14, x15, x16), x17, x18, x19, x20, x21)))
                                      else none)
                                    else none)
                              else some (.inr false))
                              else none)
                            else none)
                      else some (.inr true))
                      (0, (x1, x2, x3, x4, x5), x6, x7, x8, x9, x10)))
              else some false)
          else some false)
      else some false)
  else some false
def torporref28_Same : ((Int × Int × Int × Int × List (Int × List Int)) × Int × Int × Int × Int × List (Int × List Int)) → Option (Bool) := torporref28_Same_g LOOPx
theorem torporref28_Same_ok : FnOK Go.Proofs.Try.prog fn_torporref28_Same sg_torporref28_Same torporref28_Same := fn_of (P := Go.Proofs.Try.prog) (f := fn_torporref28_Same) (sg := sg_torporref28_Same) (sgs := []) (Gd := fun LP gs => torporref28_Same_g LP) (hn := []) (h := [(14, false, ⟨[(2, .pt 0 0), (3, .pt 1 0), (5, .it .i64)], [.va [.it .i64, .it .u32, .it .i64, .it .u32, .vs 0 (.pr (.int .i64) (.sl (.int .u8)))], .va [.it .i64, .it .u32, .it .i64, .it .u32, .vs 0 (.pr (.int .i64) (.sl (.int .u8)))]]⟩)]) (()) trivial (by kernel_rfl) (by kernel_rfl)
abbrev fn_torporref28_Great : FuncId := 15
def sg_torporref28_Great : Sig := ⟨⟨[(0, .ag [.it .i64, .it .u32, .it .i64, .it .u32, .vs 0 (.pr (.int .i64) (.sl (.int .u8)))])], []⟩, [⟨[(0, .bo)], []⟩]⟩
def torporref28_Great_g (LP : LPT) : (Int × Int × Int × Int × List (Int × List Int)) → Option (Bool) := fun (x1, x2, x3, x4, x5) =>
  Option.bind (α := (Int × Int × Int × Int × Int × List (Int × List Int)) ⊕ Bool) (β := Bool) (LP ((Int × Int) × Int × Int × Int × Int × List (Int × List Int)) ((Int × Int × Int × Int × Int × List (Int × List Int)) ⊕ Bool) (fun ((x6, x7), x8, x9, x10, x11, x12) =>
      bif decide (x7 < (x12.length : Int)) then 
          (bif decide (x6 ≤ (1000 : Int)) then 
              (bif decide (0 ≤ x7) && decide (x7 < (x12.length : Int)) then some (.inl ((IntKind.i64.wrap (x6 + (bif decide ((1001 : Int) < (((Ty.at (.pr (.int .i64) (.sl (.int .u8))) x12 x7.toNat).2).length : Int)) then 1001 else (((Ty.at (.pr (.int .i64) (.sl (.int .u8))) x12 x7.toNat).2).length : Int))), IntKind.i64.wrap (x7 + (1 : Int))), x8, x9, x10, x11, x12))
                else none)
          else some (.inr (.inl (x6, x8, x9, x10, x11, x12))))
      else some (.inr (.inl (x6, x8, x9, x10, x11, x12))))
      (((x5.length : Int), 0), x1, x2, x3, x4, x5))
    fun z => match z with
    | .inl (x13, x14, x15, x16, x17, x18) => bif !(decide ((1000 : Int) < x13)) then 
          (bif decide ((1000 : Int) < x16) then some (decide (x16 ≤ (65535 : Int)))
          else some false)
      else some true
    | .inr o => some o
def torporref28_Great : (Int × Int × Int × Int × List (Int × List Int)) → Option (Bool) := torporref28_Great_g LOOPx
theorem torporref28_Great_ok : FnOK Go.Proofs.Try.prog fn_torporref28_Great sg_torporref28_Great torporref28_Great := fn_of (P := Go.Proofs.Try.prog) (f := fn_torporref28_Great) (sg := sg_torporref28_Great) (sgs := []) (Gd := fun LP gs => torporref28_Great_g LP) (hn := []) (h := [(5, true, ⟨[(1, .pt 0 0), (3, .it .i64)], [.va [.it .i64, .it .u32, .it .i64, .it .u32, .vs 0 (.pr (.int .i64) (.sl (.int .u8)))]]⟩), (8, false, ⟨[(1, .pt 0 0), (3, .it .i64), (4, .it .i64)], [.va [.it .i64, .it .u32, .it .i64, .it .u32, .vs 0 (.pr (.int .i64) (.sl (.int .u8)))]]⟩)]) (()) trivial (by kernel_rfl) (by kernel_rfl)
abbrev fn_delta_blocks : FuncId := 28
def sg_delta_blocks : Sig := ⟨⟨[(0, .it .i64)], []⟩, [⟨[(0, .it .i64)], []⟩]⟩
def delta_blocks_g (LP : LPT) : Int → Option (Int) := fun x1 =>
  bif !decide ((16 : Int) = 0) then some (IntKind.i64.wrap ((IntKind.i64.wrap ((IntKind.i64.wrap (x1 + (16 : Int))) - (1 : Int))).tdiv (16 : Int)))
    else none
def delta_blocks : Int → Option (Int) := delta_blocks_g LOOPx
theorem delta_blocks_ok : FnOK Go.Proofs.Try.prog fn_delta_blocks sg_delta_blocks delta_blocks := fn_of (P := Go.Proofs.Try.prog) (f := fn_delta_blocks) (sg := sg_delta_blocks) (sgs := []) (Gd := fun LP gs => delta_blocks_g LP) (hn := []) (h := []) (()) trivial (by kernel_rfl) (by kernel_rfl)
abbrev fn_delta_length : FuncId := 35
def sg_delta_length : Sig := ⟨⟨[(0, .it .i64), (1, .it .i64)], []⟩, [⟨[(0, .it .i64)], []⟩]⟩
def delta_length_g (LP : LPT) (delta_blocks : Int → Option (Int)) : (Int × Int) → Option (Int) := fun (x1, x2) =>
  bif !(decide (x2 < (0 : Int))) then 
      ((delta_blocks x1).bind fun x3 => 
        (bif decide (x3 ≤ x2) then some (0 : Int)
        else some (bif decide ((IntKind.i64.wrap (x1 - (IntKind.i64.wrap (x2 * (16 : Int))))) < (16 : Int)) then IntKind.i64.wrap (x1 - (IntKind.i64.wrap (x2 * (16 : Int)))) else 16)))
  else some (0 : Int)
def delta_length : (Int × Int) → Option (Int) := delta_length_g LOOPx delta_blocks
theorem delta_length_ok : FnOK Go.Proofs.Try.prog fn_delta_length sg_delta_length delta_length := fn_of (P := Go.Proofs.Try.prog) (f := fn_delta_length) (sg := sg_delta_length) (sgs := [(fn_delta_blocks, sg_delta_blocks)]) (Gd := fun LP gs => delta_length_g LP gs.1) (hn := []) (h := []) (delta_blocks, ()) ⟨delta_blocks_ok, trivial⟩ (by kernel_rfl) (by kernel_rfl)
abbrev fn_delta_block : FuncId := 29
def sg_delta_block : Sig := ⟨⟨[(0, .vs 0 (.int .u8)), (1, .it .i64)], []⟩, [⟨[(0, .vs 0 (.int .u8))], []⟩]⟩
def delta_block_g (LP : LPT) (delta_length : (Int × Int) → Option (Int)) : ((List Int) × Int) → Option (List Int) := fun (x1, x2) =>
  (delta_length ((x1.length : Int), x2)).bind fun x3 => 
    (bif decide (x3 = (0 : Int)) then some ([])
    else 
      (bif (decide (0 ≤ IntKind.i64.wrap ((IntKind.i64.wrap (x2 * (16 : Int))) + x3)) && decide (IntKind.i64.wrap ((IntKind.i64.wrap (x2 * (16 : Int))) + x3) ≤ (x1.length : Int))) && (decide (0 ≤ IntKind.i64.wrap (x2 * (16 : Int))) && decide (IntKind.i64.wrap (x2 * (16 : Int)) ≤ ((IntKind.i64.wrap ((IntKind.i64.wrap (x2 * (16 : Int))) + x3)).toNat : Int))) then some ((x1.take ((IntKind.i64.wrap ((IntKind.i64.wrap (x2 * (16 : Int))) + x3)).toNat)).drop ((IntKind.i64.wrap (x2 * (16 : Int))).toNat))
        else none))
def delta_block : ((List Int) × Int) → Option (List Int) := delta_block_g LOOPx delta_length
theorem delta_block_ok : FnOK Go.Proofs.Try.prog fn_delta_block sg_delta_block delta_block := fn_of (P := Go.Proofs.Try.prog) (f := fn_delta_block) (sg := sg_delta_block) (sgs := [(fn_delta_length, sg_delta_length)]) (Gd := fun LP gs => delta_block_g LP gs.1) (hn := []) (h := []) (delta_length, ()) ⟨delta_length_ok, trivial⟩ (by kernel_rfl) (by kernel_rfl)
abbrev fn_delta_within : FuncId := 26
def sg_delta_within : Sig := ⟨⟨[(0, .it .i64)], []⟩, [⟨[(0, .bo)], []⟩]⟩
def delta_within_g (LP : LPT) : Int → Option (Bool) := fun x1 =>
  bif decide ((0 : Int) ≤ x1) then some (decide (x1 ≤ (65535 : Int)))
  else some false
def delta_within : Int → Option (Bool) := delta_within_g LOOPx
theorem delta_within_ok : FnOK Go.Proofs.Try.prog fn_delta_within sg_delta_within delta_within := fn_of (P := Go.Proofs.Try.prog) (f := fn_delta_within) (sg := sg_delta_within) (sgs := []) (Gd := fun LP gs => delta_within_g LP) (hn := []) (h := []) (()) trivial (by kernel_rfl) (by kernel_rfl)
abbrev fn_delta_Right : FuncId := 14
def sg_delta_Right : Sig := ⟨⟨[(0, .ag [.it .i64, .it .u32, .it .i64, .it .u32, .vs 0 (.pr (.int .i64) (.sl (.int .u8)))])], []⟩, [⟨[(0, .bo)], []⟩]⟩
def delta_Right_g (LP : LPT) (delta_length : (Int × Int) → Option (Int)) (delta_within : Int → Option (Bool)) : (Int × Int × Int × Int × List (Int × List Int)) → Option (Bool) := fun (x1, x2, x3, x4, x5) =>
  (delta_within x1).bind fun x6 => 
    (bif !(!x6) then 
        ((delta_within x3).bind fun x7 => 
          (bif !x7 then some false
          else 
            (LP ((Int × (List (Int × List Int)) × Int × Int) × Int × Int × Int × Int × List (Int × List Int)) (Bool) (fun ((x8, x9, x10, x11), x12, x13, x14, x15, x16) =>
              bif decide (x11 < x10) then 
                  (bif decide (0 ≤ x11) && decide (x11 < (x9.length : Int)) then 
                    (bif !(decide (((Ty.at (.pr (.int .i64) (.sl (.int .u8))) x9 x11.toNat).1) ≤ x8)) then 
                        (bif !(decide ((((Ty.at (.pr (.int .i64) (.sl (.int .u8))) x9 x11.toNat).2).length : Int) = (0 : Int))) then 
                            ((delta_length (x14, (Ty.at (.pr (.int .i64) (.sl (.int .u8))) x9 x11.toNat).1)).bind fun x17 => 
                              (bif !decide ((((Ty.at (.pr (.int .i64) (.sl (.int .u8))) x9 x11.toNat).2).length : Int) = x17) then some (.inr false)
                              else some (.inl (((Ty.at (.pr (.int .i64) (.sl (.int .u8))) x9 x11.toNat).1, x9, x10, IntKind.i64.wrap (x11 + (1 : Int))), x12, x13, x14, x15, x16))))
                        else some (.inr false))
                    else some (.inr false))
                    else none)
              else some (.inr true))
              (((-1), x5, (x5.length : Int), 0), x1, x2, x3, x4, x5))))
    else some false)
def delta_Right : (Int × Int × Int × Int × List (Int × List Int)) → Option (Bool) := delta_Right_g LOOPx delta_length delta_within
theorem delta_Right_ok : FnOK Go.Proofs.Try.prog fn_delta_Right sg_delta_Right delta_Right := fn_of (P := Go.Proofs.Try.prog) (f := fn_delta_Right) (sg := sg_delta_Right) (sgs := [(fn_delta_length, sg_delta_length), (fn_delta_within, sg_delta_within)]) (Gd := fun LP gs => delta_Right_g LP gs.1 gs.2.1) (hn := []) (h := [(16, false, ⟨[(1, .pt 0 0), (3, .it .i64), (17, .vs 0 (.pr (.int .i64) (.sl (.int .u8)))), (18, .it .i64), (19, .it .i64)], [.va [.it .i64, .it .u32, .it .i64, .it .u32, .vs 0 (.pr (.int .i64) (.sl (.int .u8)))]]⟩)]) (delta_length, delta_within, ()) ⟨delta_length_ok, delta_within_ok, trivial⟩ (by kernel_rfl) (by kernel_rfl)
abbrev fn_Equal_byte : FuncId := 30
def sg_Equal_byte : Sig := ⟨⟨[(0, .vs 0 (.int .u8)), (1, .vs 0 (.int .u8))], []⟩, [⟨[(0, .bo)], []⟩]⟩
def Equal_byte_g (LP : LPT) : ((List Int) × List Int) → Option (Bool) := fun (x1, x2) =>
  bif !decide ((x1.length : Int) = (x2.length : Int)) then some false
  else 
    (LP ((List Int) × (List Int) × Int × Int) (Bool) (fun (x3, x4, x5, x6) =>
      bif decide (x6 < x5) then 
          (bif decide (0 ≤ x6) && decide (x6 < (x3.length : Int)) then 
            (bif decide (0 ≤ x6) && decide (x6 < (x4.length : Int)) then 
              (bif !decide ((Ty.at (.int .u8) x3 x6.toNat) = (Ty.at (.int .u8) x4 x6.toNat)) then some (.inr false)
              else some (.inl (x3, x4, x5, IntKind.i64.wrap (x6 + (1 : Int)))))
              else none)
            else none)
      else some (.inr true))
      (x1, x2, (x1.length : Int), 0))
def Equal_byte : ((List Int) × List Int) → Option (Bool) := Equal_byte_g LOOPx
theorem Equal_byte_ok : FnOK Go.Proofs.Try.prog fn_Equal_byte sg_Equal_byte Equal_byte := fn_of (P := Go.Proofs.Try.prog) (f := fn_Equal_byte) (sg := sg_Equal_byte) (sgs := []) (Gd := fun LP gs => Equal_byte_g LP) (hn := []) (h := [(14, false, ⟨[(0, .vs 0 (.int .u8)), (1, .vs 0 (.int .u8)), (12, .it .i64), (13, .it .i64)], []⟩)]) (()) trivial (by kernel_rfl) (by kernel_rfl)
abbrev fn_delta_Diff : FuncId := 10
def sg_delta_Diff : Sig := ⟨⟨[(0, .vs 0 (.int .u8)), (1, .vs 0 (.int .u8))], []⟩, [⟨[(0, .ag [.it .i64, .it .u32, .it .i64, .it .u32, .gr 0]), (1, .it .i64)], [.gs true (.pr (.int .i64) (.sl (.int .u8)))]⟩]⟩
def delta_Diff_g (LP : LPT) (Clone_byte : (List Int) → Option (List Int)) (crc_Sum : (List Int) → Option (Int)) (delta_blocks : Int → Option (Int)) (delta_block : ((List Int) × Int) → Option (List Int)) (delta_within : Int → Option (Bool)) (Equal_byte : ((List Int) × List Int) → Option (Bool)) : ((List Int) × List Int) → Option (((Int × Int × Int × Int) × Int) × List (Int × List Int)) := fun (x1, x2) =>
  (delta_within (x1.length : Int)).bind fun x3 => 
    (bif !(!x3) then 
        ((delta_within (x2.length : Int)).bind fun x4 => 
          (bif !x4 then some (((0, 0, 0, 0), 4), [])
          else 
            ((crc_Sum x1).bind fun x5 => 
              ((crc_Sum x2).bind fun x6 => 
                ((delta_blocks (x2.length : Int)).bind fun x7 => 
                  (LP (((List Int) × (List Int) × Int × Int) × (Int × Int × Int × Int) × (Int × Int × Int × Int) × List (Int × List Int)) (((Int × Int × Int × Int) × Int) × List (Int × List Int)) (fun ((x8, x9, x10, x11), (x12, x13, x14, x15), (x16, x17, x18, x19), x20) =>
                    bif decide (x11 < x10) then 
                        ((delta_block (x9, x11)).bind fun x21 => 
                          ((delta_block (x8, x11)).bind fun x22 => 
                            ((Equal_byte (x21, x22)).bind fun x23 => 
                              (bif !x23 then 
                                  ((Clone_byte x21).bind fun x24 => 
                                    (bif decide ((x20.length + ([(x11, x24)]).length) * 32 ≤ 140737488355328) then some (.inl ((x8, x9, x10, IntKind.i64.wrap (x11 + (1 : Int))), (x12, x13, x14, x15), (x16, x17, x18, x19), x20 ++ ([(x11, x24)])))
                                      else none))
                              else some (.inl ((x8, x9, x10, IntKind.i64.wrap (x11 + (1 : Int))), (x12, x13, x14, x15), (x16, x17, x18, x19), x20))))))
                    else some (.inr (((x16, x17, x18, x19), 0), x20)))
                    ((x1, x2, x7, 0), (0, 0, 0, 0), ((x1.length : Int), x5, (x2.length : Int), x6), [])))))))
    else some (((0, 0, 0, 0), 4), []))
def delta_Diff : ((List Int) × List Int) → Option (((Int × Int × Int × Int) × Int) × List (Int × List Int)) := delta_Diff_g LOOPx Clone_byte crc_Sum delta_blocks delta_block delta_within Equal_byte
theorem delta_Diff_ok : FnOK Go.Proofs.Try.prog fn_delta_Diff sg_delta_Diff delta_Diff := fn_of (P := Go.Proofs.Try.prog) (f := fn_delta_Diff) (sg := sg_delta_Diff) (sgs := [(fn_Clone_byte, sg_Clone_byte), (fn_crc_Sum, sg_crc_Sum), (fn_delta_blocks, sg_delta_blocks), (fn_delta_block, sg_delta_block), (fn_delta_within, sg_delta_within), (fn_Equal_byte, sg_Equal_byte)]) (Gd := fun LP gs => delta_Diff_g LP gs.1 gs.2.1 gs.2.2.1 gs.2.2.2.1 gs.2.2.2.2.1 gs.2.2.2.2.2.1) (hn := []) (h := [(16, false, ⟨[(0, .vs 0 (.int .u8)), (1, .vs 0 (.int .u8)), (4, .pt 0 0), (6, .pt 1 0), (31, .it .i64), (32, .it .i64)], [.va [.it .i64, .it .u32, .it .i64, .it .u32, .sn], .va [.it .i64, .it .u32, .it .i64, .it .u32, .gr 2], .gs true (.pr (.int .i64) (.sl (.int .u8)))]⟩)]) (Clone_byte, crc_Sum, delta_blocks, delta_block, delta_within, Equal_byte, ()) ⟨Clone_byte_ok, crc_Sum_ok, delta_blocks_ok, delta_block_ok, delta_within_ok, Equal_byte_ok, trivial⟩ (by kernel_rfl) (by kernel_rfl)
abbrev fn_find_cmp : FuncId := 61
def sg_find_cmp : Sig := ⟨⟨[(0, .ag [.it .i64, .vs 0 (.int .u8)]), (1, .it .i64)], []⟩, [⟨[(0, .it .i64)], []⟩]⟩
def find_cmp_g (LP : LPT) (cmp_Compare_int : (Int × Int) → Option (Int)) : ((Int × List Int) × Int) → Option (Int) := fun ((x1, x2), x3) =>
  (cmp_Compare_int (x1, x3)).bind fun x4 => some x4
def find_cmp : ((Int × List Int) × Int) → Option (Int) := find_cmp_g LOOPx cmp_Compare_int
theorem find_cmp_ok : FnOK Go.Proofs.Try.prog fn_find_cmp sg_find_cmp find_cmp := fn_of (P := Go.Proofs.Try.prog) (f := fn_find_cmp) (sg := sg_find_cmp) (sgs := [(fn_cmp_Compare_int, sg_cmp_Compare_int)]) (Gd := fun LP gs => find_cmp_g LP gs.1) (hn := []) (h := []) (cmp_Compare_int, ()) ⟨cmp_Compare_int_ok, trivial⟩ (by kernel_rfl) (by kernel_rfl)
abbrev fn_BinarySearch_Block : FuncId := 60
def sg_BinarySearch_Block : Sig := ⟨⟨[(0, .vs 0 (.pr (.int .i64) (.sl (.int .u8)))), (1, .it .i64), (2, .fn 61 [] [])], []⟩, [⟨[(0, .it .i64), (1, .bo)], []⟩]⟩
def BinarySearch_Block_g (LP : LPT) (find_cmp : ((Int × List Int) × Int) → Option (Int)) : ((List (Int × List Int)) × Int) → Option (Int × Bool) := fun (x1, x2) =>
  Option.bind (α := ((List (Int × List Int)) × Int × Int × Int) ⊕ (Int × Bool)) (β := Int × Bool) (LP ((List (Int × List Int)) × Int × Int × Int × Int) (((List (Int × List Int)) × Int × Int × Int) ⊕ (Int × Bool)) (fun (x3, x4, x5, x6, x7) =>
      bif decide (x6 < x7) then 
          (bif decide (0 ≤ (1 : Int)) then 
            (bif decide (0 ≤ IntKind.i64.wrap ((IntKind.u64.wrap (IntKind.i64.wrap (x6 + x7))).fdiv (2 ^ (min (1 : Int).toNat IntKind.u64.bits)))) && decide (IntKind.i64.wrap ((IntKind.u64.wrap (IntKind.i64.wrap (x6 + x7))).fdiv (2 ^ (min (1 : Int).toNat IntKind.u64.bits))) < (x3.length : Int)) then 
              ((find_cmp (((Ty.at (.pr (.int .i64) (.sl (.int .u8))) x3 ((IntKind.i64.wrap ((IntKind.u64.wrap (IntKind.i64.wrap (x6 + x7))).fdiv (2 ^ (min (1 : Int).toNat IntKind.u64.bits)))).toNat)).1, (Ty.at (.pr (.int .i64) (.sl (.int .u8))) x3 ((IntKind.i64.wrap ((IntKind.u64.wrap (IntKind.i64.wrap (x6 + x7))).fdiv (2 ^ (min (1 : Int).toNat IntKind.u64.bits)))).toNat)).2), x4)).bind fun x8 => 
                (bif decide (x8 < (0 : Int)) then some (.inl (x3, x4, x5, IntKind.i64.wrap ((IntKind.i64.wrap ((IntKind.u64.wrap (IntKind.i64.wrap (x6 + x7))).fdiv (2 ^ (min (1 : Int).toNat IntKind.u64.bits)))) + (1 : Int)), x7))
                else some (.inl (x3, x4, x5, x6, IntKind.i64.wrap ((IntKind.u64.wrap (IntKind.i64.wrap (x6 + x7))).fdiv (2 ^ (min (1 : Int).toNat IntKind.u64.bits)))))))
              else none)
            else none)
      else some (.inr (.inl (x3, x4, x5, x6))))
      (x1, x2, (x1.length : Int), 0, (x1.length : Int)))
    fun z => match z with
    | .inl (x9, x10, x11, x12) => bif decide (x12 < x11) then 
          (bif decide (0 ≤ x12) && decide (x12 < (x9.length : Int)) then 
            ((find_cmp (((Ty.at (.pr (.int .i64) (.sl (.int .u8))) x9 x12.toNat).1, (Ty.at (.pr (.int .i64) (.sl (.int .u8))) x9 x12.toNat).2), x10)).bind fun x13 => some (x12, decide (x13 = (0 : Int))))
            else none)
      else some (x12, false)
    | .inr o => some o
def BinarySearch_Block : ((List (Int × List Int)) × Int) → Option (Int × Bool) := BinarySearch_Block_g LOOPx find_cmp
theorem BinarySearch_Block_ok : FnOK Go.Proofs.Try.prog fn_BinarySearch_Block sg_BinarySearch_Block BinarySearch_Block := fn_of (P := Go.Proofs.Try.prog) (f := fn_BinarySearch_Block) (sg := sg_BinarySearch_Block) (sgs := [(fn_find_cmp, sg_find_cmp)]) (Gd := fun LP gs => BinarySearch_Block_g LP gs.1) (hn := []) (h := [(7, true, ⟨[(0, .vs 0 (.pr (.int .i64) (.sl (.int .u8)))), (1, .it .i64), (2, .fn 61 [] []), (8, .it .i64), (9, .it .i64)], []⟩), (8, false, ⟨[(0, .vs 0 (.pr (.int .i64) (.sl (.int .u8)))), (1, .it .i64), (2, .fn 61 [] []), (8, .it .i64), (9, .it .i64), (10, .it .i64)], []⟩)]) (find_cmp, ()) ⟨find_cmp_ok, trivial⟩ (by kernel_rfl) (by kernel_rfl)
abbrev fn_delta_find : FuncId := 34
def sg_delta_find : Sig := ⟨⟨[(0, .ag [.it .i64, .it .u32, .it .i64, .it .u32, .vs 0 (.pr (.int .i64) (.sl (.int .u8)))]), (1, .it .i64)], []⟩, [⟨[(0, .vs 0 (.int .u8)), (1, .bo)], []⟩]⟩
def delta_find_g (LP : LPT) (BinarySearch_Block : ((List (Int × List Int)) × Int) → Option (Int × Bool)) : ((Int × Int × Int × Int × List (Int × List Int)) × Int) → Option ((List Int) × Bool) := fun ((x1, x2, x3, x4, x5), x6) =>
  (BinarySearch_Block (x5, x6)).bind fun (x7, x8) => 
    (bif !x8 then some ([], false)
    else 
      (bif decide (0 ≤ x7) && decide (x7 < (x5.length : Int)) then some ((Ty.at (.pr (.int .i64) (.sl (.int .u8))) x5 x7.toNat).2, true)
        else none))
def delta_find : ((Int × Int × Int × Int × List (Int × List Int)) × Int) → Option ((List Int) × Bool) := delta_find_g LOOPx BinarySearch_Block
theorem delta_find_ok : FnOK Go.Proofs.Try.prog fn_delta_find sg_delta_find delta_find := fn_of (P := Go.Proofs.Try.prog) (f := fn_delta_find) (sg := sg_delta_find) (sgs := [(fn_BinarySearch_Block, sg_BinarySearch_Block)]) (Gd := fun LP gs => delta_find_g LP gs.1) (hn := []) (h := []) (BinarySearch_Block, ()) ⟨BinarySearch_Block_ok, trivial⟩ (by kernel_rfl) (by kernel_rfl)
abbrev fn_delta_Apply : FuncId := 12
def sg_delta_Apply : Sig := ⟨⟨[(0, .vs 0 (.int .u8)), (1, .ag [.it .i64, .it .u32, .it .i64, .it .u32, .vs 0 (.pr (.int .i64) (.sl (.int .u8)))])], []⟩, [⟨[(0, .gr 0), (1, .it .i64)], [.gs true (.int .u8)]⟩]⟩
def delta_Apply_g (LP : LPT) (crc_Sum : (List Int) → Option (Int)) (delta_blocks : Int → Option (Int)) (delta_length : (Int × Int) → Option (Int)) (delta_block : ((List Int) × Int) → Option (List Int)) (delta_Right : (Int × Int × Int × Int × List (Int × List Int)) → Option (Bool)) (delta_find : ((Int × Int × Int × Int × List (Int × List Int)) × Int) → Option ((List Int) × Bool)) : ((List Int) × Int × Int × Int × Int × List (Int × List Int)) → Option (Int × List Int) := fun (x1, x2, x3, x4, x5, x6) =>
  (delta_Right (x2, x3, x4, x5, x6)).bind fun x7 => 
    (bif !x7 then some (3, [])
    else 
      (bif !(!decide ((x1.length : Int) = x2)) then 
          ((crc_Sum x1).bind fun x8 => 
            (bif !decide (x8 = x3) then some (9, [])
            else 
              (Option.bind (α := ((Int × Int × Int × Int × List (Int × List Int)) × List Int) ⊕ (Int × List Int)) (β := Int × List Int) ((delta_blocks x4).bind fun x9 => 
                  (LP (((List Int) × Int × Int) × (Int × Int × Int × Int × List (Int × List Int)) × List Int) (((Int × Int × Int × Int × List (Int × List Int)) × List Int) ⊕ (Int × List Int)) (fun ((x10, x11, x12), (x13, x14, x15, x16, x17), x18) =>
                    bif decide (x12 < x11) then 
                        ((delta_find ((x13, x14, x15, x16, x17), x12)).bind fun (x19, x20) => 
                          (Option.bind (α := (((List Int) × Int × (List Int) × Int × Int) × (Int × Int × Int × Int × List (Int × List Int)) × List Int) ⊕ ((((List Int) × Int × Int) × (Int × Int × Int × Int × List (Int × List Int)) × List Int) ⊕ (((Int × Int × Int × Int × List (Int × List Int)) × List Int) ⊕ (Int × List Int)))) (β := (((List Int) × Int × Int) × (Int × Int × Int × Int × List (Int × List Int)) × List Int) ⊕ (((Int × Int × Int × Int × List (Int × List Int)) × List Int) ⊕ (Int × List Int))) (bif !x20 then 
                                ((delta_block (x10, x12)).bind fun x21 => some (.inl ((x10, x12, x21, x11, x12), (x13, x14, x15, x16, x17), x18)))
                            else some (.inl ((x10, x12, x19, x11, x12), (x13, x14, x15, x16, x17), x18)))
                            fun z => match z with
                            | .inl ((x22, x23, x24, x25, x26), (x27, x28, x29, x30, x31), x32) => (delta_length (x29, x23)).bind fun x33 => 
                                (bif !decide ((x24.length : Int) = x33) then some (.inr (.inr (3, [])))
                                else 
                                  (bif decide ((x32.length + x24.length) * 1 ≤ 140737488355328) then some (.inl ((x22, x25, IntKind.i64.wrap (x26 + (1 : Int))), (x27, x28, x29, x30, x31), x32 ++ x24))
                                    else none))
                            | .inr o => some o))
                    else some (.inr (.inl ((x13, x14, x15, x16, x17), x18))))
                    ((x1, x9, 0), (x2, x3, x4, x5, x6), [])))
                fun z => match z with
                | .inl ((x34, x35, x36, x37, x38), x39) => (crc_Sum x39).bind fun x40 => 
                    (bif !decide (x40 = x37) then some (5, [])
                    else some (0, x39))
                | .inr o => some o)))
      else some (9, [])))
def delta_Apply : ((List Int) × Int × Int × Int × Int × List (Int × List Int)) → Option (Int × List Int) := delta_Apply_g LOOPx crc_Sum delta_blocks delta_length delta_block delta_Right delta_find
theorem delta_Apply_ok : FnOK Go.Proofs.Try.prog fn_delta_Apply sg_delta_Apply delta_Apply := fn_of (P := Go.Proofs.Try.prog) (f := fn_delta_Apply) (sg := sg_delta_Apply) (sgs := [(fn_crc_Sum, sg_crc_Sum), (fn_delta_blocks, sg_delta_blocks), (fn_delta_length, sg_delta_length), (fn_delta_block, sg_delta_block), (fn_delta_Right, sg_delta_Right), (fn_delta_find, sg_delta_find)]) (Gd := fun LP gs => delta_Apply_g LP gs.1 gs.2.1 gs.2.2.1 gs.2.2.2.1 gs.2.2.2.2.1 gs.2.2.2.2.2.1) (hn := []) (h := [(20, true, ⟨[(3, .pt 0 0), (6, .gr 1)], [.va [.it .i64, .it .u32, .it .i64, .it .u32, .vs 0 (.pr (.int .i64) (.sl (.int .u8)))], .gs true (.int .u8)]⟩), (23, false, ⟨[(0, .vs 0 (.int .u8)), (3, .pt 0 0), (6, .gr 1), (29, .it .i64), (30, .it .i64)], [.va [.it .i64, .it .u32, .it .i64, .it .u32, .vs 0 (.pr (.int .i64) (.sl (.int .u8)))], .gs true (.int .u8)]⟩), (37, true, ⟨[(0, .vs 0 (.int .u8)), (3, .pt 0 0), (6, .gr 1), (7, .it .i64), (8, .vs 0 (.int .u8)), (29, .it .i64), (30, .it .i64)], [.va [.it .i64, .it .u32, .it .i64, .it .u32, .vs 0 (.pr (.int .i64) (.sl (.int .u8)))], .gs true (.int .u8)]⟩)]) (crc_Sum, delta_blocks, delta_length, delta_block, delta_Right, delta_find, ()) ⟨crc_Sum_ok, delta_blocks_ok, delta_length_ok, delta_block_ok, delta_Right_ok, delta_find_ok, trivial⟩ (by kernel_rfl) (by kernel_rfl)
abbrev fn_delta_Chain : FuncId := 24
def sg_delta_Chain : Sig := ⟨⟨[(0, .vs 0 (.int .u8)), (1, .vs 0 (.pr (.int .i64) (.pr (.int .u32) (.pr (.int .i64) (.pr (.int .u32) (.sl (.pr (.int .i64) (.sl (.int .u8)))))))))], []⟩, [⟨[(0, .vs 0 (.int .u8)), (1, .it .i64)], []⟩]⟩
def delta_Chain_g (LP : LPT) (delta_Apply : ((List Int) × Int × Int × Int × Int × List (Int × List Int)) → Option (Int × List Int)) : ((List Int) × List (Int × Int × Int × Int × List (Int × List Int))) → Option ((List Int) × Int) := fun (x1, x2) =>
  LP ((List Int) × (List (Int × Int × Int × Int × List (Int × List Int))) × Int × Int) ((List Int) × Int) (fun (x3, x4, x5, x6) =>
    bif decide (x6 < x5) then 
        (bif decide (0 ≤ x6) && decide (x6 < (x4.length : Int)) then 
          ((delta_Apply (x3, (Ty.at (.pr (.int .i64) (.pr (.int .u32) (.pr (.int .i64) (.pr (.int .u32) (.sl (.pr (.int .i64) (.sl (.int .u8)))))))) x4 x6.toNat).1, ((Ty.at (.pr (.int .i64) (.pr (.int .u32) (.pr (.int .i64) (.pr (.int .u32) (.sl (.pr (.int .i64) (.sl (.int .u8)))))))) x4 x6.toNat).2).1, (((Ty.at (.pr (.int .i64) (.pr (.int .u32) (.pr (.int .i64) (.pr (.int .u32) (.sl (.pr (.int .i64) (.sl (.int .u8)))))))) x4 x6.toNat).2).2).1, ((((Ty.at (.pr (.int .i64) (.pr (.int .u32) (.pr (.int .i64) (.pr (.int .u32) (.sl (.pr (.int .i64) (.sl (.int .u8)))))))) x4 x6.toNat).2).2).2).1, ((((Ty.at (.pr (.int .i64) (.pr (.int .u32) (.pr (.int .i64) (.pr (.int .u32) (.sl (.pr (.int .i64) (.sl (.int .u8)))))))) x4 x6.toNat).2).2).2).2)).bind fun (x7, x8) => 
            (bif !decide (x7 = (0 : Int)) then some (.inr ([], x7))
            else some (.inl (x8, x4, x5, IntKind.i64.wrap (x6 + (1 : Int))))))
          else none)
    else some (.inr (x3, 0)))
    (x1, x2, (x2.length : Int), 0)
def delta_Chain : ((List Int) × List (Int × Int × Int × Int × List (Int × List Int))) → Option ((List Int) × Int) := delta_Chain_g LOOPx delta_Apply
theorem delta_Chain_ok : FnOK Go.Proofs.Try.prog fn_delta_Chain sg_delta_Chain delta_Chain := fn_of (P := Go.Proofs.Try.prog) (f := fn_delta_Chain) (sg := sg_delta_Chain) (sgs := [(fn_delta_Apply, sg_delta_Apply)]) (Gd := fun LP gs => delta_Chain_g LP gs.1) (hn := []) (h := [(6, false, ⟨[(0, .vs 0 (.int .u8)), (10, .vs 0 (.pr (.int .i64) (.pr (.int .u32) (.pr (.int .i64) (.pr (.int .u32) (.sl (.pr (.int .i64) (.sl (.int .u8))))))))), (11, .it .i64), (12, .it .i64)], []⟩)]) (delta_Apply, ()) ⟨delta_Apply_ok, trivial⟩ (by kernel_rfl) (by kernel_rfl)
abbrev fn_Compact_cmp : FuncId := 46
def sg_Compact_cmp : Sig := ⟨⟨[(0, .ag [.it .i64, .vs 0 (.int .u8)]), (1, .ag [.it .i64, .vs 0 (.int .u8)])], []⟩, [⟨[(0, .it .i64)], []⟩]⟩
def Compact_cmp_g (LP : LPT) (cmp_Compare_int : (Int × Int) → Option (Int)) : ((Int × List Int) × Int × List Int) → Option (Int) := fun ((x1, x2), x3, x4) =>
  (cmp_Compare_int (x1, x3)).bind fun x5 => some x5
def Compact_cmp : ((Int × List Int) × Int × List Int) → Option (Int) := Compact_cmp_g LOOPx cmp_Compare_int
theorem Compact_cmp_ok : FnOK Go.Proofs.Try.prog fn_Compact_cmp sg_Compact_cmp Compact_cmp := fn_of (P := Go.Proofs.Try.prog) (f := fn_Compact_cmp) (sg := sg_Compact_cmp) (sgs := [(fn_cmp_Compare_int, sg_cmp_Compare_int)]) (Gd := fun LP gs => Compact_cmp_g LP gs.1) (hn := []) (h := []) (cmp_Compare_int, ()) ⟨cmp_Compare_int_ok, trivial⟩ (by kernel_rfl) (by kernel_rfl)
abbrev fn_math_bits_Len : FuncId := 73
def sg_math_bits_Len : Sig := ⟨⟨[(0, .it .u64)], []⟩, [⟨[(0, .it .i64)], []⟩]⟩
def math_bits_Len_g (LP : LPT) (math_bits_Len64 : Int → Option (Int)) : Int → Option (Int) := fun x1 =>
  (math_bits_Len64 x1).bind fun x2 => some x2
def math_bits_Len : Int → Option (Int) := math_bits_Len_g LOOPx math_bits_Len64
theorem math_bits_Len_ok : FnOK Go.Proofs.Try.prog fn_math_bits_Len sg_math_bits_Len math_bits_Len := fn_of (P := Go.Proofs.Try.prog) (f := fn_math_bits_Len) (sg := sg_math_bits_Len) (sgs := [(fn_math_bits_Len64, sg_math_bits_Len64)]) (Gd := fun LP gs => math_bits_Len_g LP gs.1) (hn := []) (h := []) (math_bits_Len64, ()) ⟨math_bits_Len64_ok, trivial⟩ (by kernel_rfl) (by kernel_rfl)
abbrev fn_insertionSort_Block : FuncId := 90
def sg_insertionSort_Block : Sig := ⟨⟨[(0, .gr 0), (1, .it .i64), (2, .it .i64), (3, .fn 46 [] [])], [.gs true (.pr (.int .i64) (.sl (.int .u8)))]⟩, [⟨[], [.gs true (.pr (.int .i64) (.sl (.int .u8)))]⟩]⟩
def insertionSort_Block_g (LP : LPT) (Compact_cmp : ((Int × List Int) × Int × List Int) → Option (Int)) : ((Int × Int) × List (Int × List Int)) → Option (List (Int × List Int)) := fun ((x1, x2), x3) =>
  LP ((Int × Int × Int) × List (Int × List Int)) (List (Int × List Int)) (fun ((x4, x5, x6), x7) =>
    bif decide (x6 < x5) then 
        (LP ((Int × Int × Int × Int) × List (Int × List Int)) (((Int × Int × Int) × List (Int × List Int)) ⊕ (List (Int × List Int))) (fun ((x8, x9, x10, x11), x12) =>
          bif decide (x8 < x11) then 
              (bif decide (0 ≤ x11) && decide (x11 < (x12.length : Int)) then 
                (bif decide (x11.toNat < x12.length) then 
                  (bif decide (0 ≤ IntKind.i64.wrap (x11 - (1 : Int))) && decide (IntKind.i64.wrap (x11 - (1 : Int)) < (x12.length : Int)) then 
                    (bif decide ((IntKind.i64.wrap (x11 - (1 : Int))).toNat < x12.length) then 
                      ((Compact_cmp (((Ty.at (.pr (.int .i64) (.sl (.int .u8))) x12 x11.toNat).1, (Ty.at (.pr (.int .i64) (.sl (.int .u8))) x12 x11.toNat).2), (Ty.at (.pr (.int .i64) (.sl (.int .u8))) x12 ((IntKind.i64.wrap (x11 - (1 : Int))).toNat)).1, (Ty.at (.pr (.int .i64) (.sl (.int .u8))) x12 ((IntKind.i64.wrap (x11 - (1 : Int))).toNat)).2)).bind fun x13 => 
                        (bif decide (x13 < (0 : Int)) then 
                            (bif decide (0 ≤ IntKind.i64.wrap (x11 - (1 : Int))) && decide (IntKind.i64.wrap (x11 - (1 : Int)) < (x12.length : Int)) then 
                              (bif decide ((IntKind.i64.wrap (x11 - (1 : Int))).toNat < x12.length) then 
                                (bif decide (0 ≤ x11) && decide (x11 < (x12.length : Int)) then 
                                  (bif decide (x11.toNat < x12.length) then 
                                    (bif decide (0 ≤ x11) && decide (x11 < (x12.length : Int)) then 
                                      (bif decide (x11.toNat < x12.length) then 
                                        (bif decide (0 ≤ IntKind.i64.wrap (x11 - (1 : Int))) && decide (IntKind.i64.wrap (x11 - (1 : Int)) < ((x12.set x11.toNat ((Ty.at (.pr (.int .i64) (.sl (.int .u8))) x12 ((IntKind.i64.wrap (x11 - (1 : Int))).toNat)).1, (Ty.at (.pr (.int .i64) (.sl (.int .u8))) x12 ((IntKind.i64.wrap (x11 - (1 : Int))).toNat)).2)).length : Int)) then 
                                          (bif decide ((IntKind.i64.wrap (x11 - (1 : Int))).toNat < (x12.set x11.toNat ((Ty.at (.pr (.int .i64) (.sl (.int .u8))) x12 ((IntKind.i64.wrap (x11 - (1 : Int))).toNat)).1, (Ty.at (.pr (.int .i64) (.sl (.int .u8))) x12 ((IntKind.i64.wrap (x11 - (1 : Int))).toNat)).2)).length) then some (.inl ((x8, x9, x10, IntKind.i64.wrap (x11 - (1 : Int))), (x12.set x11.toNat ((Ty.at (.pr (.int .i64) (.sl (.int .u8))) x12 ((IntKind.i64.wrap (x11 - (1 : Int))).toNat)).1, (Ty.at (.pr (.int .i64) (.sl (.int .u8))) x12 ((IntKind.i64.wrap (x11 - (1 : Int))).toNat)).2)).set ((IntKind.i64.wrap (x11 - (1 : Int))).toNat) ((Ty.at (.pr (.int .i64) (.sl (.int .u8))) x12 x11.toNat).1, (Ty.at (.pr (.int .i64) (.sl (.int .u8))) x12 x11.toNat).2)))
                                            else none)
                                          else none)
                                        else none)
                                      else none)
                                    else none)
                                  else none)
                                else none)
                              else none)
                        else some (.inr (.inl ((x8, x9, IntKind.i64.wrap (x10 + (1 : Int))), x12)))))
                      else none)
                    else none)
                  else none)
                else none)
          else some (.inr (.inl ((x8, x9, IntKind.i64.wrap (x10 + (1 : Int))), x12))))
          ((x4, x5, x6, x6), x7))
    else some (.inr x7))
    ((x1, x2, IntKind.i64.wrap (x1 + (1 : Int))), x3)
def insertionSort_Block : ((Int × Int) × List (Int × List Int)) → Option (List (Int × List Int)) := insertionSort_Block_g LOOPx Compact_cmp
theorem insertionSort_Block_ok : FnOK Go.Proofs.Try.prog fn_insertionSort_Block sg_insertionSort_Block insertionSort_Block := fn_of (P := Go.Proofs.Try.prog) (f := fn_insertionSort_Block) (sg := sg_insertionSort_Block) (sgs := [(fn_Compact_cmp, sg_Compact_cmp)]) (Gd := fun LP gs => insertionSort_Block_g LP gs.1) (hn := []) (h := [(3, false, ⟨[(0, .gr 0), (1, .it .i64), (2, .it .i64), (3, .fn 46 [] []), (8, .it .i64)], [.gs true (.pr (.int .i64) (.sl (.int .u8)))]⟩), (15, false, ⟨[(0, .gr 0), (1, .it .i64), (2, .it .i64), (3, .fn 46 [] []), (8, .it .i64), (9, .it .i64)], [.gs true (.pr (.int .i64) (.sl (.int .u8)))]⟩)]) (Compact_cmp, ()) ⟨Compact_cmp_ok, trivial⟩ (by kernel_rfl) (by kernel_rfl)
abbrev fn_pdqsort_Block : FuncId := 72
def sg_pdqsort_Block : Sig := ⟨⟨[(0, .gr 0), (1, .it .i64), (2, .it .i64), (3, .it .i64), (4, .fn 46 [] [])], [.gs true (.pr (.int .i64) (.sl (.int .u8)))]⟩, [⟨[], [.gs true (.pr (.int .i64) (.sl (.int .u8)))]⟩]⟩
def pdqsort_Block_g (LP : LPT) (insertionSort_Block : ((Int × Int) × List (Int × List Int)) → Option (List (Int × List Int))) : ((Int × Int × Int) × List (Int × List Int)) → Option (List (Int × List Int)) := fun ((x1, x2, x3), x4) =>
  LP ((Int × Int × Int × Bool × Bool) × List (Int × List Int)) (List (Int × List Int)) (fun ((x5, x6, x7, x8, x9), x10) =>
    bif decide ((IntKind.i64.wrap (x6 - x5)) ≤ (12 : Int)) then 
        ((insertionSort_Block ((x5, x6), x10)).bind fun x11 => some (.inr x11))
    else 
      (bif decide (x7 = (0 : Int)) then none
      else 
        (bif !x8 then none
          else none)))
    ((x1, x2, x3, true, true), x4)
def pdqsort_Block : ((Int × Int × Int) × List (Int × List Int)) → Option (List (Int × List Int)) := pdqsort_Block_g LOOPx insertionSort_Block
theorem pdqsort_Block_ok : FnOK Go.Proofs.Try.prog fn_pdqsort_Block sg_pdqsort_Block pdqsort_Block := fn_of (P := Go.Proofs.Try.prog) (f := fn_pdqsort_Block) (sg := sg_pdqsort_Block) (sgs := [(fn_insertionSort_Block, sg_insertionSort_Block)]) (Gd := fun LP gs => pdqsort_Block_g LP gs.1) (hn := []) (h := [(5, false, ⟨[(0, .gr 0), (1, .it .i64), (2, .it .i64), (3, .it .i64), (4, .fn 46 [] []), (10, .bo), (11, .bo)], [.gs true (.pr (.int .i64) (.sl (.int .u8)))]⟩)]) (insertionSort_Block, ()) ⟨insertionSort_Block_ok, trivial⟩ (by kernel_rfl) (by kernel_rfl)
abbrev fn_SortFunc_small : FuncId := 45
def sg_SortFunc_small : Sig := ⟨⟨[(0, .gr 0), (1, .fn 46 [] [])], [.gs true (.pr (.int .i64) (.sl (.int .u8)))]⟩, [⟨[], [.gs true (.pr (.int .i64) (.sl (.int .u8)))]⟩]⟩
def SortFunc_small_g (LP : LPT) (math_bits_Len : Int → Option (Int)) (pdqsort_Block : ((Int × Int × Int) × List (Int × List Int)) → Option (List (Int × List Int))) : (List (Int × List Int)) → Option (List (Int × List Int)) := fun x1 =>
  (math_bits_Len (IntKind.u64.wrap (x1.length : Int))).bind fun x2 => 
    ((pdqsort_Block ((0, (x1.length : Int), x2), x1)).bind fun x3 => some x3)
def SortFunc_small : (List (Int × List Int)) → Option (List (Int × List Int)) := SortFunc_small_g LOOPx math_bits_Len pdqsort_Block
theorem SortFunc_small_ok : FnOK Go.Proofs.Try.prog fn_SortFunc_small sg_SortFunc_small SortFunc_small := fn_of (P := Go.Proofs.Try.prog) (f := fn_SortFunc_small) (sg := sg_SortFunc_small) (sgs := [(fn_math_bits_Len, sg_math_bits_Len), (fn_pdqsort_Block, sg_pdqsort_Block)]) (Gd := fun LP gs => SortFunc_small_g LP gs.1 gs.2.1) (hn := []) (h := []) (math_bits_Len, pdqsort_Block, ()) ⟨math_bits_Len_ok, pdqsort_Block_ok, trivial⟩ (by kernel_rfl) (by kernel_rfl)
abbrev fn_SortFunc_Block : FuncId := 45
abbrev sg_SortFunc_Block : Sig := sgSort 46 (.sl (.int .u8))
def SortFunc_Block : (List (Int × List Int)) → Option (List (Int × List Int)) := orG (sortG (.sl (.int .u8))) SortFunc_small
theorem SortFunc_Block_ok : FnOK Go.Proofs.Try.prog fn_SortFunc_Block sg_SortFunc_Block SortFunc_Block :=
  FnOK_or (sg := sgSort 46 (.sl (.int .u8))) (sort_ok rfl (by kernel_rfl) Go.Proofs.sortC_Block) SortFunc_small_ok
abbrev fn_Clone_Block : FuncId := 44
def sg_Clone_Block : Sig := sgClone (.pr (.int .i64) (.sl (.int .u8)))
def Clone_Block : (List (Int × List Int)) → Option (List (Int × List Int)) := cloneG (.pr (.int .i64) (.sl (.int .u8))) 32
theorem Clone_Block_ok : FnOK Go.Proofs.Try.prog fn_Clone_Block sg_Clone_Block Clone_Block := clone_ok (.pr (.int .i64) (.sl (.int .u8))) 32 (by kernel_rfl) (by kernel_rfl) (by kernel_rfl)
abbrev fn_delta_Compact : FuncId := 20
def sg_delta_Compact : Sig := ⟨⟨[(0, .ag [.it .i64, .it .u32, .it .i64, .it .u32, .vs 0 (.pr (.int .i64) (.sl (.int .u8)))]), (1, .ag [.it .i64, .it .u32, .it .i64, .it .u32, .vs 0 (.pr (.int .i64) (.sl (.int .u8)))])], []⟩, [⟨[(0, .ag [.it .i64, .it .u32, .it .i64, .it .u32, .gr 0]), (1, .it .i64)], [.gs true (.pr (.int .i64) (.sl (.int .u8)))]⟩]⟩
def delta_Compact_g (LP : LPT) (delta_length : (Int × Int) → Option (Int)) (delta_Right : (Int × Int × Int × Int × List (Int × List Int)) → Option (Bool)) (delta_find : ((Int × Int × Int × Int × List (Int × List Int)) × Int) → Option ((List Int) × Bool)) (SortFunc_Block : (List (Int × List Int)) → Option (List (Int × List Int))) (Clone_Block : (List (Int × List Int)) → Option (List (Int × List Int))) : ((Int × Int × Int × Int × List (Int × List Int)) × Int × Int × Int × Int × List (Int × List Int)) → Option (((Int × Int × Int × Int) × Int) × List (Int × List Int)) := fun ((x1, x2, x3, x4, x5), x6, x7, x8, x9, x10) =>
  (delta_Right (x1, x2, x3, x4, x5)).bind fun x11 => 
    (bif !(!x11) then 
        ((delta_Right (x6, x7, x8, x9, x10)).bind fun x12 => 
          (bif !x12 then some (((0, 0, 0, 0), 3), [])
          else 
            (bif !(!decide (x3 = x6)) then 
                (bif !decide (x4 = x7) then some (((0, 0, 0, 0), 9), [])
                else 
                  ((Clone_Block x10).bind fun x13 => 
                    (Option.bind (α := ((Int × Int × Int × Int) × (Int × Int × Int × Int) × List (Int × List Int)) ⊕ (((Int × Int × Int × Int) × Int) × List (Int × List Int))) (β := ((Int × Int × Int × Int) × Int) × List (Int × List Int)) (LP (((List (Int × List Int)) × Int × Int) × (Int × Int × Int × Int × List (Int × List Int)) × (Int × Int × Int × Int) × (Int × Int × Int × Int) × List (Int × List Int)) (((Int × Int × Int × Int) × (Int × Int × Int × Int) × List (Int × List Int)) ⊕ (((Int × Int × Int × Int) × Int) × List (Int × List Int))) (fun ((x14, x15, x16), (x17, x18, x19, x20, x21), (x22, x23, x24, x25), (x26, x27, x28, x29), x30) =>
                        bif decide (x16 < x15) then 
                            (bif decide (0 ≤ x16) && decide (x16 < (x14.length : Int)) then 
                              ((delta_find ((x17, x18, x19, x20, x21), (Ty.at (.pr (.int .i64) (.sl (.int .u8))) x14 x16.toNat).1)).bind fun (x31, x32) => 
                                (Option.bind (α := (((List (Int × List Int)) × Int × Int × Bool) × (Int × Int × Int × Int × List (Int × List Int)) × (Int × Int × Int × Int) × (Int × Int × Int × Int) × (Int × List Int) × List (Int × List Int)) ⊕ ((((List (Int × List Int)) × Int × Int) × (Int × Int × Int × Int × List (Int × List Int)) × (Int × Int × Int × Int) × (Int × Int × Int × Int) × List (Int × List Int)) ⊕ (((Int × Int × Int × Int) × (Int × Int × Int × Int) × List (Int × List Int)) ⊕ (((Int × Int × Int × Int) × Int) × List (Int × List Int))))) (β := (((List (Int × List Int)) × Int × Int) × (Int × Int × Int × Int × List (Int × List Int)) × (Int × Int × Int × Int) × (Int × Int × Int × Int) × List (Int × List Int)) ⊕ (((Int × Int × Int × Int) × (Int × Int × Int × Int) × List (Int × List Int)) ⊕ (((Int × Int × Int × Int) × Int) × List (Int × List Int)))) (bif !x32 then 
                                      ((delta_length (x19, (Ty.at (.pr (.int .i64) (.sl (.int .u8))) x14 x16.toNat).1)).bind fun x33 => some (.inl ((x14, x15, x16, decide ((((Ty.at (.pr (.int .i64) (.sl (.int .u8))) x14 x16.toNat).2).length : Int) = x33)), (x17, x18, x19, x20, x21), (x22, x23, x24, x25), (x26, x27, x28, x29), ((Ty.at (.pr (.int .i64) (.sl (.int .u8))) x14 x16.toNat).1, (Ty.at (.pr (.int .i64) (.sl (.int .u8))) x14 x16.toNat).2), x30)))
                                  else some (.inl ((x14, x15, x16, false), (x17, x18, x19, x20, x21), (x22, x23, x24, x25), (x26, x27, x28, x29), ((Ty.at (.pr (.int .i64) (.sl (.int .u8))) x14 x16.toNat).1, (Ty.at (.pr (.int .i64) (.sl (.int .u8))) x14 x16.toNat).2), x30)))
                                  fun z => match z with
                                  | .inl ((x34, x35, x36, x37), (x38, x39, x40, x41, x42), (x43, x44, x45, x46), (x47, x48, x49, x50), (x51, x52), x53) => bif x37 then 
                                        (bif decide ((x53.length + ([(x51, x52)]).length) * 32 ≤ 140737488355328) then some (.inl ((x34, x35, IntKind.i64.wrap (x36 + (1 : Int))), (x38, x39, x40, x41, x42), (x43, x44, x45, x46), (x47, x48, x49, x50), x53 ++ ([(x51, x52)])))
                                          else none)
                                    else some (.inl ((x34, x35, IntKind.i64.wrap (x36 + (1 : Int))), (x38, x39, x40, x41, x42), (x43, x44, x45, x46), (x47, x48, x49, x50), x53))
                                  | .inr o => some o))
                              else none)
                        else some (.inr (.inl ((x22, x23, x24, x25), (x26, x27, x28, x29), x30))))
                        ((x5, (x5.length : Int), 0), (x6, x7, x8, x9, x10), (0, 0, 0, 0), (x1, x2, x8, x9), x13))
                      fun z => match z with
                      | .inl ((x54, x55, x56, x57), (x58, x59, x60, x61), x62) => (SortFunc_Block x62).bind fun x63 => some (((x58, x59, x60, x61), 0), x63)
                      | .inr o => some o)))
            else some (((0, 0, 0, 0), 9), []))))
    else some (((0, 0, 0, 0), 3), []))
def delta_Compact : ((Int × Int × Int × Int × List (Int × List Int)) × Int × Int × Int × Int × List (Int × List Int)) → Option (((Int × Int × Int × Int) × Int) × List (Int × List Int)) := delta_Compact_g LOOPx delta_length delta_Right delta_find SortFunc_Block Clone_Block
theorem delta_Compact_ok : FnOK Go.Proofs.Try.prog fn_delta_Compact sg_delta_Compact delta_Compact := fn_of (P := Go.Proofs.Try.prog) (f := fn_delta_Compact) (sg := sg_delta_Compact) (sgs := [(fn_delta_length, sg_delta_length), (fn_delta_Right, sg_delta_Right), (fn_delta_find, sg_delta_find), (fn_SortFunc_Block, sg_SortFunc_Block), (fn_Clone_Block, sg_Clone_Block)]) (Gd := fun LP gs => delta_Compact_g LP gs.1 gs.2.1 gs.2.2.1 gs.2.2.2.1 gs.2.2.2.2.1) (hn := []) (h := [(20, true, ⟨[(4, .pt 0 0), (6, .pt 1 0)], [.va [.it .i64, .it .u32, .it .i64, .it .u32, .sn], .va [.it .i64, .it .u32, .it .i64, .it .u32, .gr 2], .gs true (.pr (.int .i64) (.sl (.int .u8)))]⟩), (23, false, ⟨[(3, .pt 0 0), (4, .pt 1 0), (6, .pt 2 0), (48, .vs 0 (.pr (.int .i64) (.sl (.int .u8)))), (49, .it .i64), (50, .it .i64)], [.va [.it .i64, .it .u32, .it .i64, .it .u32, .vs 0 (.pr (.int .i64) (.sl (.int .u8)))], .va [.it .i64, .it .u32, .it .i64, .it .u32, .sn], .va [.it .i64, .it .u32, .it .i64, .it .u32, .gr 3], .gs true (.pr (.int .i64) (.sl (.int .u8)))]⟩), (37, true, ⟨[(3, .pt 0 0), (4, .pt 1 0), (6, .pt 2 0), (8, .pt 3 0), (48, .vs 0 (.pr (.int .i64) (.sl (.int .u8)))), (49, .it .i64), (50, .it .i64), (73, .bo)], [.va [.it .i64, .it .u32, .it .i64, .it .u32, .vs 0 (.pr (.int .i64) (.sl (.int .u8)))], .va [.it .i64, .it .u32, .it .i64, .it .u32, .sn], .va [.it .i64, .it .u32, .it .i64, .it .u32, .gr 4], .va [.it .i64, .vs 0 (.int .u8)], .gs true (.pr (.int .i64) (.sl (.int .u8)))]⟩)]) (delta_length, delta_Right, delta_find, SortFunc_Block, Clone_Block, ()) ⟨delta_length_ok, delta_Right_ok, delta_find_ok, SortFunc_Block_ok, Clone_Block_ok, trivial⟩ (by kernel_rfl) (by kernel_rfl)
abbrev fn_delta_Encode : FuncId := 17
def sg_delta_Encode : Sig := ⟨⟨[(0, .ag [.it .i64, .it .u32, .it .i64, .it .u32, .vs 0 (.pr (.int .i64) (.sl (.int .u8)))])], []⟩, [⟨[(0, .gr 0), (1, .it .i64)], [.gs true (.int .u8)]⟩]⟩
def delta_Encode_g (LP : LPT) (octet_Put : ((List Int) × Int × Int) → Option (Int × List Int)) (section_All : (List (Int × List Int)) → Option (Int × List Int)) (varint_AppendInt_nil : Int → Option (List Int)) (varint_AppendInt : ((List Int) × Int) → Option (List Int)) (delta_Right : (Int × Int × Int × Int × List (Int × List Int)) → Option (Bool)) : (Int × Int × Int × Int × List (Int × List Int)) → Option (Int × List Int) := fun (x1, x2, x3, x4, x5) =>
  (delta_Right (x1, x2, x3, x4, x5)).bind fun x6 => 
    (bif !x6 then some (3, [])
    else 
      ((varint_AppendInt_nil x1).bind fun x7 => 
        ((varint_AppendInt (x7, x3)).bind fun x8 => 
          ((octet_Put (x8, IntKind.u64.wrap x2, 4)).bind fun (x9, x10) => 
            ((octet_Put (x10, IntKind.u64.wrap x4, 4)).bind fun (x11, x12) => 
              ((varint_AppendInt_nil (x5.length : Int)).bind fun x13 => 
                (Option.bind (α := ((List Int) × List Int) ⊕ (Int × List Int)) (β := Int × List Int) (LP (((List (Int × List Int)) × Int × Int) × (List Int) × List Int) (((List Int) × List Int) ⊕ (Int × List Int)) (fun ((x14, x15, x16), x17, x18) =>
                    bif decide (x16 < x15) then 
                        (bif decide (0 ≤ x16) && decide (x16 < (x14.length : Int)) then 
                          ((varint_AppendInt (x18, (Ty.at (.pr (.int .i64) (.sl (.int .u8))) x14 x16.toNat).1)).bind fun x19 => 
                            (bif decide ((x19.length + ((Ty.at (.pr (.int .i64) (.sl (.int .u8))) x14 x16.toNat).2).length) * 1 ≤ 140737488355328) then some (.inl ((x14, x15, IntKind.i64.wrap (x16 + (1 : Int))), x17, x19 ++ ((Ty.at (.pr (.int .i64) (.sl (.int .u8))) x14 x16.toNat).2)))
                              else none))
                          else none)
                    else some (.inr (.inl (x17, x18))))
                    ((x5, (x5.length : Int), 0), x12, x13))
                  fun z => match z with
                  | .inl (x20, x21) => (section_All ([(1, x20), (2, x21)])).bind fun (x22, x23) => some (x22, x23)
                  | .inr o => some o)))))))
def delta_Encode : (Int × Int × Int × Int × List (Int × List Int)) → Option (Int × List Int) := delta_Encode_g LOOPx octet_Put section_All varint_AppendInt_nil varint_AppendInt delta_Right
theorem delta_Encode_ok : FnOK Go.Proofs.Try.prog fn_delta_Encode sg_delta_Encode delta_Encode := fn_of (P := Go.Proofs.Try.prog) (f := fn_delta_Encode) (sg := sg_delta_Encode) (sgs := [(fn_octet_Put, sg_octet_Put), (fn_section_All, sg_section_All), (fn_varint_AppendInt_nil, sg_varint_AppendInt_nil), (fn_varint_AppendInt, sg_varint_AppendInt), (fn_delta_Right, sg_delta_Right)]) (Gd := fun LP gs => delta_Encode_g LP gs.1 gs.2.1 gs.2.2.1 gs.2.2.2.1 gs.2.2.2.2.1) (hn := []) (h := [(19, true, ⟨[(4, .gr 0), (5, .gr 1)], [.gs false (.int .u8), .gs true (.int .u8)]⟩), (22, false, ⟨[(4, .gr 0), (5, .gr 1), (38, .vs 0 (.pr (.int .i64) (.sl (.int .u8)))), (39, .it .i64), (40, .it .i64)], [.gs false (.int .u8), .gs true (.int .u8)]⟩)]) (octet_Put, section_All, varint_AppendInt_nil, varint_AppendInt, delta_Right, ()) ⟨octet_Put_ok, section_All_ok, varint_AppendInt_nil_ok, varint_AppendInt_ok, delta_Right_ok, trivial⟩ (by kernel_rfl) (by kernel_rfl)
abbrev fn_rd_cut : FuncId := 52
def sg_rd_cut : Sig := ⟨⟨[(0, .pt 0 0), (1, .it .i64)], [.va [.vs 0 (.int .u8), .it .i64, .it .i64]]⟩, [⟨[(0, .vs 2 (.int .u8))], [.va [.vs 0 (.int .u8), .it .i64, .it .i64]]⟩]⟩
def rd_cut_g (LP : LPT) (octet_Cut0 : ((List Int) × Int × Int) → Option ((List Int) × Int × Int)) : (Int × (List Int) × Int × Int) → Option ((List Int) × (List Int) × Int × Int) := fun (x1, x2, x3, x4) =>
  bif decide (x4 = (0 : Int)) then 
      ((octet_Cut0 (x2, x3, x1)).bind fun (x5, x6, x7) => 
        (bif decide (x7 = (0 : Int)) then some (x5, x2, x6, x7)
        else some (x5, x2, x3, x7)))
  else some ([], x2, x3, x4)
def rd_cut : (Int × (List Int) × Int × Int) → Option ((List Int) × (List Int) × Int × Int) := rd_cut_g LOOPx octet_Cut0
theorem rd_cut_ok : FnOK Go.Proofs.Try.prog fn_rd_cut sg_rd_cut rd_cut := fn_of (P := Go.Proofs.Try.prog) (f := fn_rd_cut) (sg := sg_rd_cut) (sgs := [(fn_octet_Cut0, sg_octet_Cut0)]) (Gd := fun LP gs => rd_cut_g LP gs.1) (hn := []) (h := []) (octet_Cut0, ()) ⟨octet_Cut0_ok, trivial⟩ (by kernel_rfl) (by kernel_rfl)
abbrev fn_rd_number : FuncId := 49
def sg_rd_number : Sig := ⟨⟨[(0, .pt 0 0)], [.va [.vs 0 (.int .u8), .it .i64, .it .i64]]⟩, [⟨[(0, .it .i64)], [.va [.vs 0 (.int .u8), .it .i64, .it .i64]]⟩]⟩
def rd_number_g (LP : LPT) (varint_ReadInt : ((List Int) × Int) → Option (Int × Int × Int)) : ((List Int) × Int × Int) → Option (Int × (List Int) × Int × Int) := fun (x1, x2, x3) =>
  bif !decide (x3 = (0 : Int)) then some (0, x1, x2, x3)
  else 
    ((varint_ReadInt (x1, x2)).bind fun (x4, x5, x6) => 
      (bif !decide (x6 = (0 : Int)) then some (0, x1, x2, x6)
      else some (x4, x1, x5, x6)))
def rd_number : ((List Int) × Int × Int) → Option (Int × (List Int) × Int × Int) := rd_number_g LOOPx varint_ReadInt
theorem rd_number_ok : FnOK Go.Proofs.Try.prog fn_rd_number sg_rd_number rd_number := fn_of (P := Go.Proofs.Try.prog) (f := fn_rd_number) (sg := sg_rd_number) (sgs := [(fn_varint_ReadInt, sg_varint_ReadInt)]) (Gd := fun LP gs => rd_number_g LP gs.1) (hn := []) (h := []) (varint_ReadInt, ()) ⟨varint_ReadInt_ok, trivial⟩ (by kernel_rfl) (by kernel_rfl)
abbrev fn_rd_sum : FuncId := 50
def sg_rd_sum : Sig := ⟨⟨[(0, .pt 0 0)], [.va [.vs 0 (.int .u8), .it .i64, .it .i64]]⟩, [⟨[(0, .it .u32)], [.va [.vs 0 (.int .u8), .it .i64, .it .i64]]⟩]⟩
def rd_sum_g (LP : LPT) (octet_Take : ((List Int) × Int × Int) → Option (Int × Int × Int)) (rd_cut : (Int × (List Int) × Int × Int) → Option ((List Int) × (List Int) × Int × Int)) : ((List Int) × Int × Int) → Option (Int × (List Int) × Int × Int) := fun (x1, x2, x3) =>
  (rd_cut (4, x1, x2, x3)).bind fun (x4, x5, x6, x7) => 
    ((octet_Take (x4, 0, 4)).bind fun (x8, x9, x10) => some (IntKind.u32.wrap x8, x5, x6, x7))
def rd_sum : ((List Int) × Int × Int) → Option (Int × (List Int) × Int × Int) := rd_sum_g LOOPx octet_Take rd_cut
theorem rd_sum_ok : FnOK Go.Proofs.Try.prog fn_rd_sum sg_rd_sum rd_sum := fn_of (P := Go.Proofs.Try.prog) (f := fn_rd_sum) (sg := sg_rd_sum) (sgs := [(fn_octet_Take, sg_octet_Take), (fn_rd_cut, sg_rd_cut)]) (Gd := fun LP gs => rd_sum_g LP gs.1 gs.2.1) (hn := []) (h := []) (octet_Take, rd_cut, ()) ⟨octet_Take_ok, rd_cut_ok, trivial⟩ (by kernel_rfl) (by kernel_rfl)
abbrev fn_rd_over : FuncId := 51
def sg_rd_over : Sig := ⟨⟨[(0, .pt 0 0)], [.va [.vs 0 (.int .u8), .it .i64, .it .i64]]⟩, [⟨[(0, .bo)], [.va [.vs 0 (.int .u8), .it .i64, .it .i64]]⟩]⟩
def rd_over_g (LP : LPT) : ((List Int) × Int × Int) → Option (Bool × (List Int) × Int × Int) := fun (x1, x2, x3) =>
  bif decide (x3 = (0 : Int)) then some (decide (x2 = (x1.length : Int)), x1, x2, x3)
  else some (false, x1, x2, x3)
def rd_over : ((List Int) × Int × Int) → Option (Bool × (List Int) × Int × Int) := rd_over_g LOOPx
theorem rd_over_ok : FnOK Go.Proofs.Try.prog fn_rd_over sg_rd_over rd_over := fn_of (P := Go.Proofs.Try.prog) (f := fn_rd_over) (sg := sg_rd_over) (sgs := []) (Gd := fun LP gs => rd_over_g LP) (hn := []) (h := []) (()) trivial (by kernel_rfl) (by kernel_rfl)
abbrev fn_delta_Decode : FuncId := 22
def sg_delta_Decode : Sig := ⟨⟨[(0, .vs 1 (.int .u8))], []⟩, [⟨[(0, .ag [.it .i64, .it .u32, .it .i64, .it .u32, .gr 0]), (1, .it .i64)], [.gs true (.pr (.int .i64) (.sl (.int .u8)))]⟩]⟩
def delta_Decode_g (LP : LPT) (Clone_byte : (List Int) → Option (List Int)) (section_List : (List Int) → Option (Int × List (Int × List Int))) (delta_length : (Int × Int) → Option (Int)) (delta_within : Int → Option (Bool)) (delta_Right : (Int × Int × Int × Int × List (Int × List Int)) → Option (Bool)) (rd_cut : (Int × (List Int) × Int × Int) → Option ((List Int) × (List Int) × Int × Int)) (rd_number : ((List Int) × Int × Int) → Option (Int × (List Int) × Int × Int)) (rd_sum : ((List Int) × Int × Int) → Option (Int × (List Int) × Int × Int)) (rd_over : ((List Int) × Int × Int) → Option (Bool × (List Int) × Int × Int)) : (List Int) → Option (((Int × Int × Int × Int) × Int) × List (Int × List Int)) := fun x1 =>
  (section_List x1).bind fun (x2, x3) => 
    (bif !decide (x2 = (0 : Int)) then some (((0, 0, 0, 0), x2), [])
    else 
      (bif !(!decide ((x3.length : Int) = (2 : Int))) then 
          (bif decide (0 ≤ 1) && decide (1 < (x3.length : Int)) then 
            (bif decide ((1 : Int).toNat < x3.length) then 
              (bif !decide (((Ty.at (.pr (.int .u8) (.sl (.int .u8))) x3 ((1 : Int).toNat)).1) = (2 : Int)) then some (((0, 0, 0, 0), 3), [])
              else 
                (bif decide (0 ≤ 0) && decide (0 < (x3.length : Int)) then 
                  (bif decide ((0 : Int).toNat < x3.length) then 
                    (bif decide (0 ≤ 1) && decide (1 < (x3.length : Int)) then 
                      (bif decide ((1 : Int).toNat < x3.length) then 
                        ((rd_number ((Ty.at (.pr (.int .u8) (.sl (.int .u8))) x3 ((0 : Int).toNat)).2, 0, 0)).bind fun (x4, x5, x6, x7) => 
                          ((rd_number (x5, x6, x7)).bind fun (x8, x9, x10, x11) => 
                            ((rd_sum (x9, x10, x11)).bind fun (x12, x13, x14, x15) => 
                              ((rd_sum (x13, x14, x15)).bind fun (x16, x17, x18, x19) => 
                                ((rd_over (x17, x18, x19)).bind fun (x20, x21, x22, x23) => 
                                  (bif !(!x20) then 
                                      ((delta_within x8).bind fun x24 => 
                                        (bif !x24 then some (((0, 0, 0, 0), 3), [])
                                        else 
                                          ((rd_number ((Ty.at (.pr (.int .u8) (.sl (.int .u8))) x3 ((1 : Int).toNat)).2, 0, 0)).bind fun (x25, x26, x27, x28) => 
                                            (Option.bind (α := (Int × (Int × Int × Int × Int) × ((List Int) × Int × Int) × (Int × Int × Int × Int) × List (Int × List Int)) ⊕ (((Int × Int × Int × Int) × Int) × List (Int × List Int))) (β := ((Int × Int × Int × Int) × Int) × List (Int × List Int)) (LP ((Int × Int) × (Int × Int × Int × Int) × ((List Int) × Int × Int) × (Int × Int × Int × Int) × List (Int × List Int)) ((Int × (Int × Int × Int × Int) × ((List Int) × Int × Int) × (Int × Int × Int × Int) × List (Int × List Int)) ⊕ (((Int × Int × Int × Int) × Int) × List (Int × List Int))) (fun ((x29, x30), (x31, x32, x33, x34), (x35, x36, x37), (x38, x39, x40, x41), x42) =>
                                                bif decide (x30 < x29) then 
                                                    (bif decide (x37 = (0 : Int)) then 
                                                        ((rd_number (x35, x36, x37)).bind fun (x43, x44, x45, x46) => 
                                                          ((delta_length (x40, x43)).bind fun x47 => 
                                                            ((rd_cut (x47, x44, x45, x46)).bind fun (x48, x49, x50, x51) => 
                                                              ((Clone_byte x48).bind fun x52 => 
                                                                (bif decide ((x42.length + ([(x43, x52)]).length) * 32 ≤ 140737488355328) then some (.inl ((x29, IntKind.i64.wrap (x30 + (1 : Int))), (x31, x32, x33, x34), (x49, x50, x51), (x38, x39, x40, x41), x42 ++ ([(x43, x52)])))
                                                                  else none)))))
                                                    else some (.inr (.inl (x29, (x31, x32, x33, x34), (x35, x36, x37), (x38, x39, x40, x41), x42))))
                                                else some (.inr (.inl (x29, (x31, x32, x33, x34), (x35, x36, x37), (x38, x39, x40, x41), x42))))
                                                ((x25, 0), (0, 0, 0, 0), (x26, x27, x28), (x4, x12, x8, x16), []))
                                              fun z => match z with
                                              | .inl (x53, (x54, x55, x56, x57), (x58, x59, x60), (x61, x62, x63, x64), x65) => (rd_over (x58, x59, x60)).bind fun (x66, x67, x68, x69) => 
                                                  (bif !(!x66) then 
                                                      (bif !(decide (x53 < (0 : Int))) then 
                                                          ((delta_Right (x61, x62, x63, x64, x65)).bind fun x70 => 
                                                            (bif !x70 then some (((0, 0, 0, 0), 3), [])
                                                            else some (((x61, x62, x63, x64), 0), x65)))
                                                      else some (((0, 0, 0, 0), 3), []))
                                                  else some (((0, 0, 0, 0), 3), []))
                                              | .inr o => some o))))
                                  else some (((0, 0, 0, 0), 3), [])))))))
                        else none)
                      else none)
                    else none)
                  else none))
              else none)
            else none)
      else some (((0, 0, 0, 0), 3), [])))
def delta_Decode : (List Int) → Option (((Int × Int × Int × Int) × Int) × List (Int × List Int)) := delta_Decode_g LOOPx Clone_byte section_List delta_length delta_within delta_Right rd_cut rd_number rd_sum rd_over
theorem delta_Decode_ok : FnOK Go.Proofs.Try.prog fn_delta_Decode sg_delta_Decode delta_Decode := fn_of (P := Go.Proofs.Try.prog) (f := fn_delta_Decode) (sg := sg_delta_Decode) (sgs := [(fn_Clone_byte, sg_Clone_byte), (fn_section_List, sg_section_List), (fn_delta_length, sg_delta_length), (fn_delta_within, sg_delta_within), (fn_delta_Right, sg_delta_Right), (fn_rd_cut, sg_rd_cut), (fn_rd_number, sg_rd_number), (fn_rd_sum, sg_rd_sum), (fn_rd_over, sg_rd_over)]) (Gd := fun LP gs => delta_Decode_g LP gs.1 gs.2.1 gs.2.2.1 gs.2.2.2.1 gs.2.2.2.2.1 gs.2.2.2.2.2.1 gs.2.2.2.2.2.2.1 gs.2.2.2.2.2.2.2.1 gs.2.2.2.2.2.2.2.2.1) (hn := []) (h := [(40, true, ⟨[(2, .pt 0 0), (7, .pt 1 0), (8, .pt 2 0), (9, .it .i64)], [.va [.it .i64, .it .u32, .it .i64, .it .u32, .sn], .va [.vs 0 (.int .u8), .it .i64, .it .i64], .va [.it .i64, .it .u32, .it .i64, .it .u32, .gr 3], .gs true (.pr (.int .i64) (.sl (.int .u8)))]⟩), (43, false, ⟨[(2, .pt 0 0), (7, .pt 1 0), (8, .pt 2 0), (9, .it .i64), (10, .it .i64)], [.va [.it .i64, .it .u32, .it .i64, .it .u32, .sn], .va [.vs 0 (.int .u8), .it .i64, .it .i64], .va [.it .i64, .it .u32, .it .i64, .it .u32, .gr 3], .gs true (.pr (.int .i64) (.sl (.int .u8)))]⟩)]) (Clone_byte, section_List, delta_length, delta_within, delta_Right, rd_cut, rd_number, rd_sum, rd_over, ()) ⟨Clone_byte_ok, section_List_ok, delta_length_ok, delta_within_ok, delta_Right_ok, rd_cut_ok, rd_number_ok, rd_sum_ok, rd_over_ok, trivial⟩ (by kernel_rfl) (by kernel_rfl)
abbrev fn_torporlaw28_alive : FuncId := 9
def sg_torporlaw28_alive : Sig := ⟨⟨[], []⟩, [⟨[(0, .bo)], []⟩]⟩
def torporlaw28_alive_g (LP : LPT) (torporref28_Same : ((Int × Int × Int × Int × List (Int × List Int)) × Int × Int × Int × Int × List (Int × List Int)) → Option (Bool)) (delta_Right : (Int × Int × Int × Int × List (Int × List Int)) → Option (Bool)) (delta_Diff : ((List Int) × List Int) → Option (((Int × Int × Int × Int) × Int) × List (Int × List Int))) (delta_Apply : ((List Int) × Int × Int × Int × Int × List (Int × List Int)) → Option (Int × List Int)) (delta_Chain : ((List Int) × List (Int × Int × Int × Int × List (Int × List Int))) → Option ((List Int) × Int)) (delta_Compact : ((Int × Int × Int × Int × List (Int × List Int)) × Int × Int × Int × Int × List (Int × List Int)) → Option (((Int × Int × Int × Int) × Int) × List (Int × List Int))) (delta_Encode : (Int × Int × Int × Int × List (Int × List Int)) → Option (Int × List Int)) (delta_Decode : (List Int) → Option (((Int × Int × Int × Int) × Int) × List (Int × List Int))) : Unit → Option (Bool) := fun _ =>
  bif decide (0 ≤ 40) && (decide (40 ≤ 40) && (decide (40 ≤ 9223372036854775807) && decide ((1 : Int) * (40 : Int) ≤ 140737488355328))) then 
    (bif decide ((([] : List Int).length + (List.replicate (40 : Int).toNat (0 : Int)).length) * 1 ≤ 140737488355328) then 
      (bif decide (0 ≤ 19) && decide (19 < ((([] : List Int) ++ (List.replicate (40 : Int).toNat (0 : Int))).length : Int)) then 
        (bif decide ((19 : Int).toNat < (([] : List Int) ++ (List.replicate (40 : Int).toNat (0 : Int))).length) then 
          (bif decide ((([] : List Int).length + ((([] : List Int) ++ (List.replicate (40 : Int).toNat (0 : Int))).set ((19 : Int).toNat) (7 : Int)).length) * 1 ≤ 140737488355328) then 
            (bif decide (((([] : List Int) ++ ((([] : List Int) ++ (List.replicate (40 : Int).toNat (0 : Int))).set ((19 : Int).toNat) (7 : Int))).length + ([1, 2]).length) * 1 ≤ 140737488355328) then 
              ((delta_Diff (List.replicate (40 : Int).toNat (0 : Int), (([] : List Int) ++ (List.replicate (40 : Int).toNat (0 : Int))).set ((19 : Int).toNat) (7 : Int))).bind fun (((x1, x2, x3, x4), x5), x6) => 
                ((delta_Apply (List.replicate (40 : Int).toNat (0 : Int), x1, x2, x3, x4, x6)).bind fun (x7, x8) => 
                  ((delta_Diff ((([] : List Int) ++ (List.replicate (40 : Int).toNat (0 : Int))).set ((19 : Int).toNat) (7 : Int), (([] : List Int) ++ ((([] : List Int) ++ (List.replicate (40 : Int).toNat (0 : Int))).set ((19 : Int).toNat) (7 : Int))) ++ ([1, 2]))).bind fun (((x9, x10, x11, x12), x13), x14) => 
                    ((delta_Chain (List.replicate (40 : Int).toNat (0 : Int), [(x1, x2, x3, x4, x6), (x9, x10, x11, x12, x14)])).bind fun (x15, x16) => 
                      ((delta_Compact ((x1, x2, x3, x4, x6), x9, x10, x11, x12, x14)).bind fun (((x17, x18, x19, x20), x21), x22) => 
                        ((delta_Apply (List.replicate (40 : Int).toNat (0 : Int), x17, x18, x19, x20, x22)).bind fun (x23, x24) => 
                          ((delta_Apply ((([] : List Int) ++ (List.replicate (40 : Int).toNat (0 : Int))).set ((19 : Int).toNat) (7 : Int), x1, x2, x3, x4, x6)).bind fun (x25, x26) => 
                            ((delta_Compact ((x9, x10, x11, x12, x14), x1, x2, x3, x4, x6)).bind fun (((x27, x28, x29, x30), x31), x32) => 
                              ((delta_Encode (x17, x18, x19, x20, x22)).bind fun (x33, x34) => 
                                ((delta_Decode x34).bind fun (((x35, x36, x37, x38), x39), x40) => 
                                  (bif decide (x5 = (0 : Int)) then 
                                      (bif decide (x7 = (0 : Int)) then 
                                          (bif decide (x13 = (0 : Int)) then 
                                              (bif decide (x16 = (0 : Int)) then 
                                                  (bif decide (x21 = (0 : Int)) then 
                                                      (bif decide (x23 = (0 : Int)) then 
                                                          (bif decide (x33 = (0 : Int)) then 
                                                              (bif decide (x39 = (0 : Int)) then 
                                                                  (bif decide (x25 = (9 : Int)) then 
                                                                      (bif decide (x31 = (9 : Int)) then 
                                                                          (bif decide ((x6.length : Int) = (1 : Int)) then 
                                                                              (bif decide (0 ≤ 0) && decide (0 < (x6.length : Int)) then 
                                                                                (bif decide ((0 : Int).toNat < x6.length) then 
                                                                                  (bif decide (((Ty.at (.pr (.int .i64) (.sl (.int .u8))) x6 ((0 : Int).toNat)).1) = (1 : Int)) then 
                                                                                      (bif decide ((x14.length : Int) = (1 : Int)) then 
                                                                                          (bif decide (0 ≤ 0) && decide (0 < (x14.length : Int)) then 
                                                                                            (bif decide ((0 : Int).toNat < x14.length) then 
                                                                                              (bif decide ((((Ty.at (.pr (.int .i64) (.sl (.int .u8))) x14 ((0 : Int).toNat)).2).length : Int) = (10 : Int)) then 
                                                                                                  (bif decide ((x22.length : Int) = (2 : Int)) then 
                                                                                                      (bif (bst x8).toList == (bst ((([] : List Int) ++ (List.replicate (40 : Int).toNat (0 : Int))).set ((19 : Int).toNat) (7 : Int))).toList then 
                                                                                                          (bif (bst x15).toList == (bst ((([] : List Int) ++ ((([] : List Int) ++ (List.replicate (40 : Int).toNat (0 : Int))).set ((19 : Int).toNat) (7 : Int))) ++ ([1, 2]))).toList then 
                                                                                                              (bif (bst x24).toList == (bst ((([] : List Int) ++ ((([] : List Int) ++ (List.replicate (40 : Int).toNat (0 : Int))).set ((19 : Int).toNat) (7 : Int))) ++ ([1, 2]))).toList then 
                                                                                                                  ((torporref28_Same ((x35, x36, x37, x38, x40), x17, x18, x19, x20, x22)).bind fun x41 => 
                                                                                                                    (bif x41 then 
                                                                                                                        ((delta_Right (x17, x18, x19, x20, x22)).bind fun x42 => 
                                                                                                                          (bif x42 then 
                                                                                                                              ((delta_Right (0, 0, (-1), 0, [])).bind fun x43 => some (!x43))
                                                                                                                          else some false))
                                                                                                                    else some false))
                                                                                                              else some false)
                                                                                                          else some false)
                                                                                                      else some false)
                                                                                                  else some false)
                                                                                              else some false)
                                                                                              else none)
                                                                                            else none)
                                                                                      else some false)
                                                                                  else some false)
                                                                                  else none)
                                                                                else none)
                                                                          else some false)
                                                                      else some false)
                                                                  else some false)
                                                              else some false)
                                                          else some false)
                                                      else some false)
                                                  else some false)
                                              else some false)
                                          else some false)
                                      else some false)
                                  else some false)))))))))))
              else none)
            else none)
          else none)
        else none)
      else none)
    else none
def torporlaw28_alive : Unit → Option (Bool) := torporlaw28_alive_g LOOPx torporref28_Same delta_Right delta_Diff delta_Apply delta_Chain delta_Compact delta_Encode delta_Decode
theorem torporlaw28_alive_ok : FnOK Go.Proofs.Try.prog fn_torporlaw28_alive sg_torporlaw28_alive torporlaw28_alive := fn_of (P := Go.Proofs.Try.prog) (f := fn_torporlaw28_alive) (sg := sg_torporlaw28_alive) (sgs := [(fn_torporref28_Same, sg_torporref28_Same), (fn_delta_Right, sg_delta_Right), (fn_delta_Diff, sg_delta_Diff), (fn_delta_Apply, sg_delta_Apply), (fn_delta_Chain, sg_delta_Chain), (fn_delta_Compact, sg_delta_Compact), (fn_delta_Encode, sg_delta_Encode), (fn_delta_Decode, sg_delta_Decode)]) (Gd := fun LP gs => torporlaw28_alive_g LP gs.1 gs.2.1 gs.2.2.1 gs.2.2.2.1 gs.2.2.2.2.1 gs.2.2.2.2.2.1 gs.2.2.2.2.2.2.1 gs.2.2.2.2.2.2.2.1) (hn := []) (h := []) (torporref28_Same, delta_Right, delta_Diff, delta_Apply, delta_Chain, delta_Compact, delta_Encode, delta_Decode, ()) ⟨torporref28_Same_ok, delta_Right_ok, delta_Diff_ok, delta_Apply_ok, delta_Chain_ok, delta_Compact_ok, delta_Encode_ok, delta_Decode_ok, trivial⟩ (by kernel_rfl) (by kernel_rfl)
abbrev fn_torporlaw28_DeltaChains : FuncId := 7
def sg_torporlaw28_DeltaChains : Sig := ⟨⟨[(0, .vs 0 (.int .u8)), (1, .vs 0 (.sl (.int .u8))), (2, .it .u8)], []⟩, [⟨[(0, .bo)], []⟩]⟩
def torporlaw28_DeltaChains_g (LP : LPT) (torporref28_Chain : ((List Int) × List (Int × Int × Int × Int × List (Int × List Int))) → Option (Int × List Int)) (delta_Diff : ((List Int) × List Int) → Option (((Int × Int × Int × Int) × Int) × List (Int × List Int))) (delta_Chain : ((List Int) × List (Int × Int × Int × Int × List (Int × List Int))) → Option ((List Int) × Int)) (delta_Compact : ((Int × Int × Int × Int × List (Int × List Int)) × Int × Int × Int × Int × List (Int × List Int)) → Option (((Int × Int × Int × Int) × Int) × List (Int × List Int))) (torporlaw28_alive : Unit → Option (Bool)) : ((List Int) × (List (List Int)) × Int) → Option (Bool) := fun (x1, x2, x3) =>
  (torporlaw28_alive ()).bind fun x4 => 
    (bif !x4 then some false
    else 
      (bif !(decide ((500 : Int) < (x1.length : Int))) then 
          (bif decide ((10 : Int) < (x2.length : Int)) then some true
          else 
            (Option.bind (α := (((List Int) × Int × List Int) × List (Int × Int × Int × Int × List (Int × List Int))) ⊕ Bool) (β := Bool) (LP (((List Int) × (List (List Int)) × Int × (List Int) × Int) × List (Int × Int × Int × Int × List (Int × List Int))) ((((List Int) × Int × List Int) × List (Int × Int × Int × Int × List (Int × List Int))) ⊕ Bool) (fun ((x5, x6, x7, x8, x9), x10) =>
                bif decide (x9 < (x6.length : Int)) then 
                    (bif decide (0 ≤ x9) && decide (x9 < (x6.length : Int)) then 
                      (bif decide ((500 : Int) < ((Ty.at (.sl (.int .u8)) x6 x9.toNat).length : Int)) then some (.inr (.inr true))
                      else 
                        (bif decide (0 ≤ x9) && decide (x9 < (x6.length : Int)) then 
                          ((delta_Diff (x8, Ty.at (.sl (.int .u8)) x6 x9.toNat)).bind fun (((x11, x12, x13, x14), x15), x16) => 
                            (bif !decide (x15 = (0 : Int)) then some (.inr (.inr false))
                            else 
                              (bif decide (0 ≤ x9) && decide (x9 < (x6.length : Int)) then 
                                (bif decide ((x10.length + ([(x11, x12, x13, x14, x16)]).length) * 56 ≤ 140737488355328) then some (.inl ((x5, x6, x7, Ty.at (.sl (.int .u8)) x6 x9.toNat, IntKind.i64.wrap (x9 + (1 : Int))), x10 ++ ([(x11, x12, x13, x14, x16)])))
                                  else none)
                                else none)))
                          else none))
                      else none)
                else some (.inr (.inl ((x5, x7, x8), x10))))
                ((x1, x2, x3, x1, 0), []))
              fun z => match z with
              | .inl ((x17, x18, x19), x20) => (delta_Chain (x17, x20)).bind fun (x21, x22) => 
                  ((torporref28_Chain (x17, x20)).bind fun (x23, x24) => 
                    (bif !(!decide (x22 = (0 : Int))) then 
                        (bif !(!decide (x23 = (0 : Int))) then 
                            (bif !(!((bst x21).toList == (bst x19).toList)) then 
                                (bif !(!((bst x24).toList == (bst x19).toList)) then 
                                    (bif decide ((x20.length : Int) < (2 : Int)) then 
                                        (bif decide (x22 = (0 : Int)) then 
                                            (bif (bst x21).toList == (bst x19).toList then some (decide ((x20.length : Int) < (2 : Int)))
                                            else some false)
                                        else some false)
                                    else 
                                      (bif !decide ((IntKind.i64.wrap ((x20.length : Int) - (1 : Int))) = 0) then 
                                        (bif decide (0 ≤ (IntKind.i64.wrap x18).tmod (IntKind.i64.wrap ((x20.length : Int) - (1 : Int)))) && decide ((IntKind.i64.wrap x18).tmod (IntKind.i64.wrap ((x20.length : Int) - (1 : Int))) < (x20.length : Int)) then 
                                          (bif decide (((IntKind.i64.wrap x18).tmod (IntKind.i64.wrap ((x20.length : Int) - (1 : Int)))).toNat < x20.length) then 
                                            (bif decide (0 ≤ IntKind.i64.wrap (((IntKind.i64.wrap x18).tmod (IntKind.i64.wrap ((x20.length : Int) - (1 : Int)))) + (1 : Int))) && decide (IntKind.i64.wrap (((IntKind.i64.wrap x18).tmod (IntKind.i64.wrap ((x20.length : Int) - (1 : Int)))) + (1 : Int)) < (x20.length : Int)) then 
                                              (bif decide ((IntKind.i64.wrap (((IntKind.i64.wrap x18).tmod (IntKind.i64.wrap ((x20.length : Int) - (1 : Int)))) + (1 : Int))).toNat < x20.length) then 
                                                ((delta_Compact (((Ty.at (.pr (.int .i64) (.pr (.int .u32) (.pr (.int .i64) (.pr (.int .u32) (.sl (.pr (.int .i64) (.sl (.int .u8)))))))) x20 (((IntKind.i64.wrap x18).tmod (IntKind.i64.wrap ((x20.length : Int) - (1 : Int)))).toNat)).1, ((Ty.at (.pr (.int .i64) (.pr (.int .u32) (.pr (.int .i64) (.pr (.int .u32) (.sl (.pr (.int .i64) (.sl (.int .u8)))))))) x20 (((IntKind.i64.wrap x18).tmod (IntKind.i64.wrap ((x20.length : Int) - (1 : Int)))).toNat)).2).1, (((Ty.at (.pr (.int .i64) (.pr (.int .u32) (.pr (.int .i64) (.pr (.int .u32) (.sl (.pr (.int .i64) (.sl (.int .u8)))))))) x20 (((IntKind.i64.wrap x18).tmod (IntKind.i64.wrap ((x20.length : Int) - (1 : Int)))).toNat)).2).2).1, ((((Ty.at (.pr (.int .i64) (.pr (.int .u32) (.pr (.int .i64) (.pr (.int .u32) (.sl (.pr (.int .i64) (.sl (.int .u8)))))))) x20 (((IntKind.i64.wrap x18).tmod (IntKind.i64.wrap ((x20.length : Int) - (1 : Int)))).toNat)).2).2).2).1, ((((Ty.at (.pr (.int .i64) (.pr (.int .u32) (.pr (.int .i64) (.pr (.int .u32) (.sl (.pr (.int .i64) (.sl (.int .u8)))))))) x20 (((IntKind.i64.wrap x18).tmod (IntKind.i64.wrap ((x20.length : Int) - (1 : Int)))).toNat)).2).2).2).2), (Ty.at (.pr (.int .i64) (.pr (.int .u32) (.pr (.int .i64) (.pr (.int .u32) (.sl (.pr (.int .i64) (.sl (.int .u8)))))))) x20 ((IntKind.i64.wrap (((IntKind.i64.wrap x18).tmod (IntKind.i64.wrap ((x20.length : Int) - (1 : Int)))) + (1 : Int))).toNat)).1, ((Ty.at (.pr (.int .i64) (.pr (.int .u32) (.pr (.int .i64) (.pr (.int .u32) (.sl (.pr (.int .i64) (.sl (.int .u8)))))))) x20 ((IntKind.i64.wrap (((IntKind.i64.wrap x18).tmod (IntKind.i64.wrap ((x20.length : Int) - (1 : Int)))) + (1 : Int))).toNat)).2).1, (((Ty.at (.pr (.int .i64) (.pr (.int .u32) (.pr (.int .i64) (.pr (.int .u32) (.sl (.pr (.int .i64) (.sl (.int .u8)))))))) x20 ((IntKind.i64.wrap (((IntKind.i64.wrap x18).tmod (IntKind.i64.wrap ((x20.length : Int) - (1 : Int)))) + (1 : Int))).toNat)).2).2).1, ((((Ty.at (.pr (.int .i64) (.pr (.int .u32) (.pr (.int .i64) (.pr (.int .u32) (.sl (.pr (.int .i64) (.sl (.int .u8)))))))) x20 ((IntKind.i64.wrap (((IntKind.i64.wrap x18).tmod (IntKind.i64.wrap ((x20.length : Int) - (1 : Int)))) + (1 : Int))).toNat)).2).2).2).1, ((((Ty.at (.pr (.int .i64) (.pr (.int .u32) (.pr (.int .i64) (.pr (.int .u32) (.sl (.pr (.int .i64) (.sl (.int .u8)))))))) x20 ((IntKind.i64.wrap (((IntKind.i64.wrap x18).tmod (IntKind.i64.wrap ((x20.length : Int) - (1 : Int)))) + (1 : Int))).toNat)).2).2).2).2)).bind fun (((x25, x26, x27, x28), x29), x30) => 
                                                  (bif (decide (0 ≤ (IntKind.i64.wrap x18).tmod (IntKind.i64.wrap ((x20.length : Int) - (1 : Int)))) && decide ((IntKind.i64.wrap x18).tmod (IntKind.i64.wrap ((x20.length : Int) - (1 : Int))) ≤ (x20.length : Int))) && true then 
                                                    (bif decide (0 ≤ IntKind.i64.wrap (((IntKind.i64.wrap x18).tmod (IntKind.i64.wrap ((x20.length : Int) - (1 : Int)))) + (2 : Int))) && decide (IntKind.i64.wrap (((IntKind.i64.wrap x18).tmod (IntKind.i64.wrap ((x20.length : Int) - (1 : Int)))) + (2 : Int)) ≤ (x20.length : Int)) then 
                                                      (bif decide (0 + ((((IntKind.i64.wrap x18).tmod (IntKind.i64.wrap ((x20.length : Int) - (1 : Int)))).toNat) - 0) ≤ x20.length) && decide ((([] : List (Int × Int × Int × Int × List (Int × List Int))).length + ((x20.drop 0).take ((((IntKind.i64.wrap x18).tmod (IntKind.i64.wrap ((x20.length : Int) - (1 : Int)))).toNat) - 0)).length) * 56 ≤ 140737488355328) then 
                                                        (bif decide (((([] : List (Int × Int × Int × Int × List (Int × List Int))) ++ ((x20.drop 0).take ((((IntKind.i64.wrap x18).tmod (IntKind.i64.wrap ((x20.length : Int) - (1 : Int)))).toNat) - 0))).length + ([(x25, x26, x27, x28, x30)]).length) * 56 ≤ 140737488355328) then 
                                                          (bif decide (((IntKind.i64.wrap (((IntKind.i64.wrap x18).tmod (IntKind.i64.wrap ((x20.length : Int) - (1 : Int)))) + (2 : Int))).toNat) + (x20.length - ((IntKind.i64.wrap (((IntKind.i64.wrap x18).tmod (IntKind.i64.wrap ((x20.length : Int) - (1 : Int)))) + (2 : Int))).toNat)) ≤ x20.length) && decide ((((([] : List (Int × Int × Int × Int × List (Int × List Int))) ++ ((x20.drop 0).take ((((IntKind.i64.wrap x18).tmod (IntKind.i64.wrap ((x20.length : Int) - (1 : Int)))).toNat) - 0))) ++ ([(x25, x26, x27, x28, x30)])).length + ((x20.drop ((IntKind.i64.wrap (((IntKind.i64.wrap x18).tmod (IntKind.i64.wrap ((x20.length : Int) - (1 : Int)))) + (2 : Int))).toNat)).take (x20.length - ((IntKind.i64.wrap (((IntKind.i64.wrap x18).tmod (IntKind.i64.wrap ((x20.length : Int) - (1 : Int)))) + (2 : Int))).toNat))).length) * 56 ≤ 140737488355328) then 
                                                            ((delta_Chain (x17, ((([] : List (Int × Int × Int × Int × List (Int × List Int))) ++ ((x20.drop 0).take ((((IntKind.i64.wrap x18).tmod (IntKind.i64.wrap ((x20.length : Int) - (1 : Int)))).toNat) - 0))) ++ ([(x25, x26, x27, x28, x30)])) ++ ((x20.drop ((IntKind.i64.wrap (((IntKind.i64.wrap x18).tmod (IntKind.i64.wrap ((x20.length : Int) - (1 : Int)))) + (2 : Int))).toNat)).take (x20.length - ((IntKind.i64.wrap (((IntKind.i64.wrap x18).tmod (IntKind.i64.wrap ((x20.length : Int) - (1 : Int)))) + (2 : Int))).toNat))))).bind fun (x31, x32) => 
                                                              (bif decide (x29 = (0 : Int)) then 
                                                                  (bif decide (x32 = (0 : Int)) then some ((bst x31).toList == (bst x19).toList)
                                                                  else some false)
                                                              else some false))
                                                            else none)
                                                          else none)
                                                        else none)
                                                      else none)
                                                    else none))
                                                else none)
                                              else none)
                                            else none)
                                          else none)
                                        else none))
                                else 
                                  (bif decide (x22 = (0 : Int)) then 
                                      (bif (bst x21).toList == (bst x19).toList then some (decide ((x20.length : Int) < (2 : Int)))
                                      else some false)
                                  else some false))
                            else 
                              (bif decide (x22 = (0 : Int)) then 
                                  (bif (bst x21).toList == (bst x19).toList then some (decide ((x20.length : Int) < (2 : Int)))
                                  else some false)
                              else some false))
                        else 
                          (bif decide (x22 = (0 : Int)) then 
                              (bif (bst x21).toList == (bst x19).toList then some (decide ((x20.length : Int) < (2 : Int)))
                              else some false)
                          else some false))
                    else 
                      (bif decide (x22 = (0 : Int)) then 
                          (bif (bst x21).toList == (bst x19).toList then some (decide ((x20.length : Int) < (2 : Int)))
                          else some false)
                      else some false)))
              | .inr o => some o))
      else some true))
def torporlaw28_DeltaChains : ((List Int) × (List (List Int)) × Int) → Option (Bool) := torporlaw28_DeltaChains_g LOOPx torporref28_Chain delta_Diff delta_Chain delta_Compact torporlaw28_alive
theorem torporlaw28_DeltaChains_ok : FnOK Go.Proofs.Try.prog fn_torporlaw28_DeltaChains sg_torporlaw28_DeltaChains torporlaw28_DeltaChains := fn_of (P := Go.Proofs.Try.prog) (f := fn_torporlaw28_DeltaChains) (sg := sg_torporlaw28_DeltaChains) (sgs := [(fn_torporref28_Chain, sg_torporref28_Chain), (fn_delta_Diff, sg_delta_Diff), (fn_delta_Chain, sg_delta_Chain), (fn_delta_Compact, sg_delta_Compact), (fn_torporlaw28_alive, sg_torporlaw28_alive)]) (Gd := fun LP gs => torporlaw28_DeltaChains_g LP gs.1 gs.2.1 gs.2.2.1 gs.2.2.2.1 gs.2.2.2.2.1) (hn := []) (h := [(23, true, ⟨[(0, .vs 0 (.int .u8)), (2, .it .u8), (7, .gr 0), (8, .vs 0 (.int .u8))], [.gs true (.pr (.int .i64) (.pr (.int .u32) (.pr (.int .i64) (.pr (.int .u32) (.sl (.pr (.int .i64) (.sl (.int .u8))))))))]⟩), (26, false, ⟨[(0, .vs 0 (.int .u8)), (1, .vs 0 (.sl (.int .u8))), (2, .it .u8), (7, .gr 0), (8, .vs 0 (.int .u8)), (9, .it .i64)], [.gs true (.pr (.int .i64) (.pr (.int .u32) (.pr (.int .i64) (.pr (.int .u32) (.sl (.pr (.int .i64) (.sl (.int .u8))))))))]⟩)]) (torporref28_Chain, delta_Diff, delta_Chain, delta_Compact, torporlaw28_alive, ()) ⟨torporref28_Chain_ok, delta_Diff_ok, delta_Chain_ok, delta_Compact_ok, torporlaw28_alive_ok, trivial⟩ (by kernel_rfl) (by kernel_rfl)
end Go.AX
end
