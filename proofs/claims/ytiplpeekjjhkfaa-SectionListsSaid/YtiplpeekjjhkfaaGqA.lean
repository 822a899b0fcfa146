/- Parts: QsA. -/
import Derived.Test.YtiplpeekjjhkfaaGcA
import Derived.Test.YtiplpeekjjhkfaaGeB
import Derived.Test.YtiplpeekjjhkfaaProg
import Derived.KernelRfl

section
/- Functions of this seat, as typed functions of Lean, written by a program; each with its proof. -/
set_option linter.unusedVariables false
set_option maxRecDepth 100000
namespace Go.AX
open Go

/-- math/bits.Len64 -/
abbrev fn_math_bits_Len64 : FuncId := 55
def sg_math_bits_Len64 : Sig := ⟨⟨[(0, .it .u64)], []⟩, [⟨[(0, .it .i64)], []⟩]⟩
def math_bits_Len64_g (LP : LPT) : Int → Option (Int) := fun x1 =>
  Option.bind (α := (Int × Int) ⊕ Int) (β := Int) (bif decide ((4294967296 : Int) ≤ x1) then 
        (bif decide (0 ≤ (32 : Int)) then some (.inl (x1.fdiv (2 ^ (min (32 : Int).toNat IntKind.u64.bits)), 32))
          else none)
    else some (.inl (x1, 0)))
    fun z => match z with
    | .inl (x2, x3) => Option.bind (α := (Int × Int) ⊕ Int) (β := Int) (bif decide ((65536 : Int) ≤ x2) then 
            (bif decide (0 ≤ (16 : Int)) then some (.inl (x2.fdiv (2 ^ (min (16 : Int).toNat IntKind.u64.bits)), IntKind.i64.wrap (x3 + (16 : Int))))
              else none)
        else some (.inl (x2, x3)))
        fun z => match z with
        | .inl (x4, x5) => bif decide ((256 : Int) ≤ x4) then 
              (bif decide (0 ≤ (8 : Int)) then 
                (bif decide (0 ≤ IntKind.u8.wrap (x4.fdiv (2 ^ (min (8 : Int).toNat IntKind.u64.bits)))) && decide (IntKind.u8.wrap (x4.fdiv (2 ^ (min (8 : Int).toNat IntKind.u64.bits))) < ((⟨#[0, 1, 2, 2, 3, 3, 3, 3, 4, 4, 4, 4, 4, 4, 4, 4, 5, 5, 5, 5, 5, 5, 5, 5, 5, 5, 5, 5, 5, 5, 5, 5, 6, 6, 6, 6, 6, 6, 6, 6, 6, 6, 6, 6, 6, 6, 6, 6, 6, 6, 6, 6, 6, 6, 6, 6, 6, 6, 6, 6, 6, 6, 6, 6, 7, 7, 7, 7, 7, 7, 7, 7, 7, 7, 7, 7, 7, 7, 7, 7, 7, 7, 7, 7, 7, 7, 7, 7, 7, 7, 7, 7, 7, 7, 7, 7, 7, 7, 7, 7, 7, 7, 7, 7, 7, 7, 7, 7, 7, 7, 7, 7, 7, 7, 7, 7, 7, 7, 7, 7, 7, 7, 7, 7, 7, 7, 7, 7, 8, 8, 8, 8, 8, 8, 8, 8, 8, 8, 8, 8, 8, 8, 8, 8, 8, 8, 8, 8, 8, 8, 8, 8, 8, 8, 8, 8, 8, 8, 8, 8, 8, 8, 8, 8, 8, 8, 8, 8, 8, 8, 8, 8, 8, 8, 8, 8, 8, 8, 8, 8, 8, 8, 8, 8, 8, 8, 8, 8, 8, 8, 8, 8, 8, 8, 8, 8, 8, 8, 8, 8, 8, 8, 8, 8, 8, 8, 8, 8, 8, 8, 8, 8, 8, 8, 8, 8, 8, 8, 8, 8, 8, 8, 8, 8, 8, 8, 8, 8, 8, 8, 8, 8, 8, 8, 8, 8, 8, 8, 8, 8, 8, 8, 8, 8, 8, 8, 8, 8, 8, 8, 8, 8, 8, 8, 8, 8]⟩ : ByteArray).size : Int)) then some (IntKind.i64.wrap ((IntKind.i64.wrap (x5 + (8 : Int))) + (IntKind.i64.wrap (bat (⟨#[0, 1, 2, 2, 3, 3, 3, 3, 4, 4, 4, 4, 4, 4, 4, 4, 5, 5, 5, 5, 5, 5, 5, 5, 5, 5, 5, 5, 5, 5, 5, 5, 6, 6, 6, 6, 6, 6, 6, 6, 6, 6, 6, 6, 6, 6, 6, 6, 6, 6, 6, 6, 6, 6, 6, 6, 6, 6, 6, 6, 6, 6, 6, 6, 7, 7, 7, 7, 7, 7, 7, 7, 7, 7, 7, 7, 7, 7, 7, 7, 7, 7, 7, 7, 7, 7, 7, 7, 7, 7, 7, 7, 7, 7, 7, 7, 7, 7, 7, 7, 7, 7, 7, 7, 7, 7, 7, 7, 7, 7, 7, 7, 7, 7, 7, 7, 7, 7, 7, 7, 7, 7, 7, 7, 7, 7, 7, 7, 8, 8, 8, 8, 8, 8, 8, 8, 8, 8, 8, 8, 8, 8, 8, 8, 8, 8, 8, 8, 8, 8, 8, 8, 8, 8, 8, 8, 8, 8, 8, 8, 8, 8, 8, 8, 8, 8, 8, 8, 8, 8, 8, 8, 8, 8, 8, 8, 8, 8, 8, 8, 8, 8, 8, 8, 8, 8, 8, 8, 8, 8, 8, 8, 8, 8, 8, 8, 8, 8, 8, 8, 8, 8, 8, 8, 8, 8, 8, 8, 8, 8, 8, 8, 8, 8, 8, 8, 8, 8, 8, 8, 8, 8, 8, 8, 8, 8, 8, 8, 8, 8, 8, 8, 8, 8, 8, 8, 8, 8, 8, 8, 8, 8, 8, 8, 8, 8, 8, 8, 8, 8, 8, 8, 8, 8, 8, 8]⟩ : ByteArray) (IntKind.u8.wrap (x4.fdiv (2 ^ (min (8 : Int).toNat IntKind.u64.bits)))).toNat))))
                  else none)
                else none)
          else 
            (bif decide (0 ≤ IntKind.u8.wrap x4) && decide (IntKind.u8.wrap x4 < ((⟨#[0, 1, 2, 2, 3, 3, 3, 3, 4, 4, 4, 4, 4, 4, 4, 4, 5, 5, 5, 5, 5, 5, 5, 5, 5, 5, 5, 5, 5, 5, 5, 5, 6, 6, 6, 6, 6, 6, 6, 6, 6, 6, 6, 6, 6, 6, 6, 6, 6, 6, 6, 6, 6, 6, 6, 6, 6, 6, 6, 6, 6, 6, 6, 6, 7, 7, 7, 7, 7, 7, 7, 7, 7, 7, 7, 7, 7, 7, 7, 7, 7, 7, 7, 7, 7, 7, 7, 7, 7, 7, 7, 7, 7, 7, 7, 7, 7, 7, 7, 7, 7, 7, 7, 7, 7, 7, 7, 7, 7, 7, 7, 7, 7, 7, 7, 7, 7, 7, 7, 7, 7, 7, 7, 7, 7, 7, 7, 7, 8, 8, 8, 8, 8, 8, 8, 8, 8, 8, 8, 8, 8, 8, 8, 8, 8, 8, 8, 8, 8, 8, 8, 8, 8, 8, 8, 8, 8, 8, 8, 8, 8, 8, 8, 8, 8, 8, 8, 8, 8, 8, 8, 8, 8, 8, 8, 8, 8, 8, 8, 8, 8, 8, 8, 8, 8, 8, 8, 8, 8, 8, 8, 8, 8, 8, 8, 8, 8, 8, 8, 8, 8, 8, 8, 8, 8, 8, 8, 8, 8, 8, 8, 8, 8, 8, 8, 8, 8, 8, 8, 8, 8, 8, 8, 8, 8, 8, 8, 8, 8, 8, 8, 8, 8, 8, 8, 8, 8, 8, 8, 8, 8, 8, 8, 8, 8, 8, 8, 8, 8, 8, 8, 8, 8, 8, 8, 8]⟩ : ByteArray).size : Int)) then some (IntKind.i64.wrap (x5 + (IntKind.i64.wrap (bat (⟨#[0, 1, 2, 2, 3, 3, 3, 3, 4, 4, 4, 4, 4, 4, 4, 4, 5, 5, 5, 5, 5, 5, 5, 5, 5, 5, 5, 5, 5, 5, 5, 5, 6, 6, 6, 6, 6, 6, 6, 6, 6, 6, 6, 6, 6, 6, 6, 6, 6, 6, 6, 6, 6, 6, 6, 6, 6, 6, 6, 6, 6, 6, 6, 6, 7, 7, 7, 7, 7, 7, 7, 7, 7, 7, 7, 7, 7, 7, 7, 7, 7, 7, 7, 7, 7, 7, 7, 7, 7, 7, 7, 7, 7, 7, 7, 7, 7, 7, 7, 7, 7, 7, 7, 7, 7, 7, 7, 7, 7, 7, 7, 7, 7, 7, 7, 7, 7, 7, 7, 7, 7, 7, 7, 7, 7, 7, 7, 7, 8, 8, 8, 8, 8, 8, 8, 8, 8, 8, 8, 8, 8, 8, 8, 8, 8, 8, 8, 8, 8, 8, 8, 8, 8, 8, 8, 8, 8, 8, 8, 8, 8, 8, 8, 8, 8, 8, 8, 8, 8, 8, 8, 8, 8, 8, 8, 8, 8, 8, 8, 8, 8, 8, 8, 8, 8, 8, 8, 8, 8, 8, 8, 8, 8, 8, 8, 8, 8, 8, 8, 8, 8, 8, 8, 8, 8, 8, 8, 8, 8, 8, 8, 8, 8, 8, 8, 8, 8, 8, 8, 8, 8, 8, 8, 8, 8, 8, 8, 8, 8, 8, 8, 8, 8, 8, 8, 8, 8, 8, 8, 8, 8, 8, 8, 8, 8, 8, 8, 8, 8, 8, 8, 8, 8, 8, 8, 8]⟩ : ByteArray) (IntKind.u8.wrap x4).toNat))))
              else none)
        | .inr o => some o
    | .inr o => some o
def math_bits_Len64 : Int → Option (Int) := math_bits_Len64_g LOOPx
theorem math_bits_Len64_ok : FnOK Go.Proofs.Try.prog fn_math_bits_Len64 sg_math_bits_Len64 math_bits_Len64 := fn_of (P := Go.Proofs.Try.prog) (f := fn_math_bits_Len64) (sg := sg_math_bits_Len64) (sgs := []) (Gd := fun LP gs => math_bits_Len64_g LP) (hn := []) (h := [(3, true, ⟨[(0, .it .u64), (2, .it .i64)], []⟩), (11, true, ⟨[(0, .it .u64), (2, .it .i64)], []⟩)]) (()) trivial (by kernel_rfl) (by kernel_rfl)

/-- torporref01.Size -/
abbrev fn_torporref01_Size : FuncId := 50
def sg_torporref01_Size : Sig := ⟨⟨[(0, .it .u64)], []⟩, [⟨[(0, .it .i64)], []⟩]⟩
def torporref01_Size_g (LP : LPT) : Int → Option (Int) := fun x1 =>
  bif !decide ((256 : Int) = 0) then 
    (LP (Int × Int) (Int) (fun (x2, x3) =>
      bif decide ((0 : Int) < x2) then 
          (bif !decide ((256 : Int) = 0) then some (.inl (IntKind.u64.wrap (x2.tdiv (256 : Int)), IntKind.i64.wrap (x3 + (1 : Int))))
            else none)
      else some (.inr x3))
      (IntKind.u64.wrap (x1.tdiv (256 : Int)), 1))
    else none
def torporref01_Size : Int → Option (Int) := torporref01_Size_g LOOPx
theorem torporref01_Size_ok : FnOK Go.Proofs.Try.prog fn_torporref01_Size sg_torporref01_Size torporref01_Size := fn_of (P := Go.Proofs.Try.prog) (f := fn_torporref01_Size) (sg := sg_torporref01_Size) (sgs := []) (Gd := fun LP gs => torporref01_Size_g LP) (hn := []) (h := [(8, false, ⟨[(0, .it .u64), (3, .it .i64)], []⟩)]) (()) trivial (by kernel_rfl) (by kernel_rfl)

/-- torporref01.Fits -/
abbrev fn_torporref01_Fits : FuncId := 43
def sg_torporref01_Fits : Sig := ⟨⟨[(0, .it .u64), (1, .it .i64)], []⟩, [⟨[(0, .bo)], []⟩]⟩
def torporref01_Fits_g (LP : LPT) (torporref01_Size : Int → Option (Int)) : (Int × Int) → Option (Bool) := fun (x1, x2) =>
  bif decide ((1 : Int) ≤ x2) then 
      (bif decide (x2 ≤ (8 : Int)) then 
          ((torporref01_Size x1).bind fun x3 => some (decide (x3 ≤ x2)))
      else some false)
  else some false
def torporref01_Fits : (Int × Int) → Option (Bool) := torporref01_Fits_g LOOPx torporref01_Size
theorem torporref01_Fits_ok : FnOK Go.Proofs.Try.prog fn_torporref01_Fits sg_torporref01_Fits torporref01_Fits := fn_of (P := Go.Proofs.Try.prog) (f := fn_torporref01_Fits) (sg := sg_torporref01_Fits) (sgs := [(fn_torporref01_Size, sg_torporref01_Size)]) (Gd := fun LP gs => torporref01_Fits_g LP gs.1) (hn := []) (h := []) (torporref01_Size, ()) ⟨torporref01_Size_ok, trivial⟩ (by kernel_rfl) (by kernel_rfl)

/-- torporref01.Put -/
abbrev fn_torporref01_Put : FuncId := 26
def sg_torporref01_Put : Sig := ⟨⟨[(0, .vs 0 (.int .u8)), (1, .it .u64), (2, .it .i64)], []⟩, [⟨[(0, .gr 0), (1, .it .i64)], [.gs true (.int .u8)]⟩]⟩
def torporref01_Put_g (LP : LPT) (torporref01_Fits : (Int × Int) → Option (Bool)) : ((List Int) × Int × Int) → Option (Int × List Int) := fun (x1, x2, x3) =>
  bif !(decide (x3 < (1 : Int))) then 
      (bif decide ((8 : Int) < x3) then some (1, [])
      else 
        ((torporref01_Fits (x2, x3)).bind fun x4 => 
          (bif !x4 then some (4, [])
          else 
            (bif decide ((([] : List Int).length + x1.length) * 1 ≤ 140737488355328) then 
              (LP ((Int × Int × Int) × List Int) (Int × List Int) (fun ((x5, x6, x7), x8) =>
                bif decide (x7 < x6) then 
                    (bif !decide ((256 : Int) = 0) then 
                      (bif decide ((x8.length + ([IntKind.u8.wrap (x5.tmod (256 : Int))]).length) * 1 ≤ 140737488355328) then 
                        (bif !decide ((256 : Int) = 0) then some (.inl ((IntKind.u64.wrap (x5.tdiv (256 : Int)), x6, IntKind.i64.wrap (x7 + (1 : Int))), x8 ++ ([IntKind.u8.wrap (x5.tmod (256 : Int))])))
                          else none)
                        else none)
                      else none)
                else some (.inr (0, x8)))
                ((x2, x3, 0), ([] : List Int) ++ x1))
              else none))))
  else some (1, [])
def torporref01_Put : ((List Int) × Int × Int) → Option (Int × List Int) := torporref01_Put_g LOOPx torporref01_Fits
theorem torporref01_Put_ok : FnOK Go.Proofs.Try.prog fn_torporref01_Put sg_torporref01_Put torporref01_Put := fn_of (P := Go.Proofs.Try.prog) (f := fn_torporref01_Put) (sg := sg_torporref01_Put) (sgs := [(fn_torporref01_Fits, sg_torporref01_Fits)]) (Gd := fun LP gs => torporref01_Put_g LP gs.1) (hn := []) (h := [(24, false, ⟨[(1, .it .u64), (2, .it .i64), (8, .gr 0), (9, .it .i64)], [.gs true (.int .u8)]⟩)]) (torporref01_Fits, ()) ⟨torporref01_Fits_ok, trivial⟩ (by kernel_rfl) (by kernel_rfl)

/-- torporref01.Cut -/
abbrev fn_torporref01_Cut : FuncId := 32
def sg_torporref01_Cut : Sig := ⟨⟨[(0, .vs 0 (.int .u8)), (1, .it .i64), (2, .it .i64)], []⟩, [⟨[(0, .gr 0), (1, .it .i64), (2, .it .i64)], [.gs true (.int .u8)]⟩]⟩
def torporref01_Cut_g (LP : LPT) : ((List Int) × Int × Int) → Option ((Int × Int) × List Int) := fun (x1, x2, x3) =>
  bif !(decide (x2 < (0 : Int))) then 
      (bif !(decide ((x1.length : Int) < x2)) then 
          (bif decide (x3 < (0 : Int)) then some ((0, 1), [])
          else 
            (bif decide ((IntKind.i64.wrap ((x1.length : Int) - x2)) < x3) then some ((0, 2), [])
            else 
              (bif (decide (0 ≤ IntKind.i64.wrap (x2 + x3)) && decide (IntKind.i64.wrap (x2 + x3) ≤ (x1.length : Int))) && (decide (0 ≤ x2) && decide (x2 ≤ ((IntKind.i64.wrap (x2 + x3)).toNat : Int))) then 
                (bif decide ((([] : List Int).length + ((x1.take ((IntKind.i64.wrap (x2 + x3)).toNat)).drop x2.toNat).length) * 1 ≤ 140737488355328) then some ((IntKind.i64.wrap (x2 + x3), 0), ([] : List Int) ++ ((x1.take ((IntKind.i64.wrap (x2 + x3)).toNat)).drop x2.toNat))
                  else none)
                else none)))
      else some ((0, 1), []))
  else some ((0, 1), [])
def torporref01_Cut : ((List Int) × Int × Int) → Option ((Int × Int) × List Int) := torporref01_Cut_g LOOPx
theorem torporref01_Cut_ok : FnOK Go.Proofs.Try.prog fn_torporref01_Cut sg_torporref01_Cut torporref01_Cut := fn_of (P := Go.Proofs.Try.prog) (f := fn_torporref01_Cut) (sg := sg_torporref01_Cut) (sgs := []) (Gd := fun LP gs => torporref01_Cut_g LP) (hn := []) (h := []) (()) trivial (by kernel_rfl) (by kernel_rfl)

/-- torporref01.Take -/
abbrev fn_torporref01_Take : FuncId := 33
def sg_torporref01_Take : Sig := ⟨⟨[(0, .vs 0 (.int .u8)), (1, .it .i64), (2, .it .i64)], []⟩, [⟨[(0, .it .u64), (1, .it .i64), (2, .it .i64)], []⟩]⟩
def torporref01_Take_g (LP : LPT) (torporref01_Cut : ((List Int) × Int × Int) → Option ((Int × Int) × List Int)) : ((List Int) × Int × Int) → Option (Int × Int × Int) := fun (x1, x2, x3) =>
  bif !(decide (x3 < (1 : Int))) then 
      (bif decide ((8 : Int) < x3) then some (0, 0, 1)
      else 
        ((torporref01_Cut (x1, x2, x3)).bind fun ((x4, x5), x6) => 
          (bif !decide (x5 = (0 : Int)) then some (0, 0, x5)
          else 
            (LP ((Int × Int × Int) × List Int) (Int × Int × Int) (fun ((x7, x8, x9), x10) =>
              bif decide ((0 : Int) ≤ x9) then 
                  (bif decide (0 ≤ x9) && decide (x9 < (x10.length : Int)) then 
                    (bif decide (x9.toNat < x10.length) then some (.inl ((x7, IntKind.u64.wrap ((IntKind.u64.wrap (x8 * (256 : Int))) + (IntKind.u64.wrap (Ty.at (.int .u8) x10 x9.toNat))), IntKind.i64.wrap (x9 - (1 : Int))), x10))
                      else none)
                    else none)
              else some (.inr (x8, x7, 0)))
              ((x4, 0, IntKind.i64.wrap ((x6.length : Int) - (1 : Int))), x6)))))
  else some (0, 0, 1)
def torporref01_Take : ((List Int) × Int × Int) → Option (Int × Int × Int) := torporref01_Take_g LOOPx torporref01_Cut
theorem torporref01_Take_ok : FnOK Go.Proofs.Try.prog fn_torporref01_Take sg_torporref01_Take torporref01_Take := fn_of (P := Go.Proofs.Try.prog) (f := fn_torporref01_Take) (sg := sg_torporref01_Take) (sgs := [(fn_torporref01_Cut, sg_torporref01_Cut)]) (Gd := fun LP gs => torporref01_Take_g LP gs.1) (hn := []) (h := [(26, false, ⟨[(9, .gr 0), (10, .it .i64), (12, .it .u64), (13, .it .i64)], [.gs true (.int .u8)]⟩)]) (torporref01_Cut, ()) ⟨torporref01_Cut_ok, trivial⟩ (by kernel_rfl) (by kernel_rfl)

/-- torporref02.Bytes -/
abbrev fn_torporref02_Bytes : FuncId := 20
def sg_torporref02_Bytes : Sig := ⟨⟨[(0, .it .u64)], []⟩, [⟨[(0, .gr 0)], [.gs true (.int .u8)]⟩]⟩
def torporref02_Bytes_g (LP : LPT) : Int → Option (List Int) := fun x1 =>
  LP (Int × List Int) (List Int) (fun (x2, x3) =>
    bif decide ((127 : Int) < x2) then 
        (bif !decide ((128 : Int) = 0) then 
          (bif decide ((x3.length + ([IntKind.u8.wrap (IntKind.u64.wrap ((x2.tmod (128 : Int)) + (128 : Int)))]).length) * 1 ≤ 140737488355328) then 
            (bif !decide ((128 : Int) = 0) then some (.inl (IntKind.u64.wrap (x2.tdiv (128 : Int)), x3 ++ ([IntKind.u8.wrap (IntKind.u64.wrap ((x2.tmod (128 : Int)) + (128 : Int)))])))
              else none)
            else none)
          else none)
    else 
      (inR (bif decide ((x3.length + ([IntKind.u8.wrap x2]).length) * 1 ≤ 140737488355328) then some (x3 ++ ([IntKind.u8.wrap x2]))
          else none)))
    (x1, [])
def torporref02_Bytes : Int → Option (List Int) := torporref02_Bytes_g LOOPx
theorem torporref02_Bytes_ok : FnOK Go.Proofs.Try.prog fn_torporref02_Bytes sg_torporref02_Bytes torporref02_Bytes := fn_of (P := Go.Proofs.Try.prog) (f := fn_torporref02_Bytes) (sg := sg_torporref02_Bytes) (sgs := []) (Gd := fun LP gs => torporref02_Bytes_g LP) (hn := []) (h := [(6, false, ⟨[(0, .it .u64), (3, .gr 0)], [.gs true (.int .u8)]⟩)]) (()) trivial (by kernel_rfl) (by kernel_rfl)

/-- torporref02.Append -/
abbrev fn_torporref02_Append : FuncId := 25
def sg_torporref02_Append : Sig := ⟨⟨[(0, .vs 0 (.int .u8)), (1, .it .u64)], []⟩, [⟨[(0, .gr 0)], [.gs true (.int .u8)]⟩]⟩
def torporref02_Append_g (LP : LPT) (torporref02_Bytes : Int → Option (List Int)) : ((List Int) × Int) → Option (List Int) := fun (x1, x2) =>
  bif decide ((([] : List Int).length + x1.length) * 1 ≤ 140737488355328) then 
    ((torporref02_Bytes x2).bind fun x3 => 
      (bif decide (((([] : List Int) ++ x1).length + x3.length) * 1 ≤ 140737488355328) then some ((([] : List Int) ++ x1) ++ x3)
        else none))
    else none
def torporref02_Append : ((List Int) × Int) → Option (List Int) := torporref02_Append_g LOOPx torporref02_Bytes
theorem torporref02_Append_ok : FnOK Go.Proofs.Try.prog fn_torporref02_Append sg_torporref02_Append torporref02_Append := fn_of (P := Go.Proofs.Try.prog) (f := fn_torporref02_Append) (sg := sg_torporref02_Append) (sgs := [(fn_torporref02_Bytes, sg_torporref02_Bytes)]) (Gd := fun LP gs => torporref02_Append_g LP gs.1) (hn := []) (h := []) (torporref02_Bytes, ()) ⟨torporref02_Bytes_ok, trivial⟩ (by kernel_rfl) (by kernel_rfl)

/-- torporref02.Read -/
abbrev fn_torporref02_Read : FuncId := 31
def sg_torporref02_Read : Sig := ⟨⟨[(0, .vs 0 (.int .u8)), (1, .it .i64)], []⟩, [⟨[(0, .it .u64), (1, .it .i64), (2, .it .i64)], []⟩]⟩
def torporref02_Read_g (LP : LPT) : ((List Int) × Int) → Option (Int × Int × Int) := fun (x1, x2) =>
  bif !(decide (x2 < (0 : Int))) then 
      (bif decide ((x1.length : Int) < x2) then some (0, 0, 1)
      else 
        (LP ((List Int) × Int × Int × Int × Int) (Int × Int × Int) (fun (x3, x4, x5, x6, x7) =>
          bif decide ((IntKind.i64.wrap (x4 + x7)) = (x3.length : Int)) then some (.inr (0, 0, 2))
          else 
            (bif decide (0 ≤ IntKind.i64.wrap (x4 + x7)) && decide (IntKind.i64.wrap (x4 + x7) < (x3.length : Int)) then 
              (Option.bind (α := ((List Int) × Int × Int × Int × Int × Int) ⊕ (((List Int) × Int × Int × Int × Int) ⊕ (Int × Int × Int))) (β := ((List Int) × Int × Int × Int × Int) ⊕ (Int × Int × Int)) (bif decide (x7 = (9 : Int)) then 
                    (bif decide ((1 : Int) < (Ty.at (.int .u8) x3 ((IntKind.i64.wrap (x4 + x7)).toNat))) then some (.inr (.inr (0, 0, 4)))
                    else some (.inl (x3, x4, x5, x6, x7, Ty.at (.int .u8) x3 ((IntKind.i64.wrap (x4 + x7)).toNat))))
                else some (.inl (x3, x4, x5, x6, x7, Ty.at (.int .u8) x3 ((IntKind.i64.wrap (x4 + x7)).toNat))))
                fun z => match z with
                | .inl (x8, x9, x10, x11, x12, x13) => bif !decide ((128 : Int) = 0) then 
                    (bif decide ((127 : Int) < x13) then some (.inl (x8, x9, IntKind.u64.wrap (x10 + (IntKind.u64.wrap ((IntKind.u64.wrap (x13.tmod (128 : Int))) * x11))), IntKind.u64.wrap (x11 * (128 : Int)), IntKind.i64.wrap (x12 + (1 : Int))))
                    else 
                      (bif decide (x13 = (0 : Int)) then 
                          (bif decide ((0 : Int) < x12) then some (.inr (0, 0, 3))
                          else some (.inr (IntKind.u64.wrap (x10 + (IntKind.u64.wrap ((IntKind.u64.wrap (x13.tmod (128 : Int))) * x11))), IntKind.i64.wrap ((IntKind.i64.wrap (x9 + x12)) + (1 : Int)), 0)))
                      else some (.inr (IntKind.u64.wrap (x10 + (IntKind.u64.wrap ((IntKind.u64.wrap (x13.tmod (128 : Int))) * x11))), IntKind.i64.wrap ((IntKind.i64.wrap (x9 + x12)) + (1 : Int)), 0))))
                    else none
                | .inr o => some o)
              else none))
          (x1, x2, 0, 1, 0)))
  else some (0, 0, 1)
def torporref02_Read : ((List Int) × Int) → Option (Int × Int × Int) := torporref02_Read_g LOOPx
theorem torporref02_Read_ok : FnOK Go.Proofs.Try.prog fn_torporref02_Read sg_torporref02_Read torporref02_Read := fn_of (P := Go.Proofs.Try.prog) (f := fn_torporref02_Read) (sg := sg_torporref02_Read) (sgs := []) (Gd := fun LP gs => torporref02_Read_g LP) (hn := []) (h := [(15, false, ⟨[(0, .vs 0 (.int .u8)), (1, .it .i64), (7, .it .u64), (8, .it .u64), (9, .it .i64)], []⟩), (29, true, ⟨[(0, .vs 0 (.int .u8)), (1, .it .i64), (7, .it .u64), (8, .it .u64), (9, .it .i64), (10, .it .u8)], []⟩)]) (()) trivial (by kernel_rfl) (by kernel_rfl)

/-- octet.Size -/
abbrev fn_octet_Size : FuncId := 49
def sg_octet_Size : Sig := ⟨⟨[(0, .it .u64)], []⟩, [⟨[(0, .it .i64)], []⟩]⟩
def octet_Size_g (LP : LPT) (math_bits_Len64 : Int → Option (Int)) : Int → Option (Int) := fun x1 =>
  (math_bits_Len64 x1).bind fun x2 => 
    (bif !decide ((8 : Int) = 0) then some (bif decide ((IntKind.i64.wrap ((IntKind.i64.wrap ((IntKind.i64.wrap (x2 + (8 : Int))) - (1 : Int))).tdiv (8 : Int))) > (1 : Int)) then IntKind.i64.wrap ((IntKind.i64.wrap ((IntKind.i64.wrap (x2 + (8 : Int))) - (1 : Int))).tdiv (8 : Int)) else 1)
      else none)
def octet_Size : Int → Option (Int) := octet_Size_g LOOPx math_bits_Len64
theorem octet_Size_ok : FnOK Go.Proofs.Try.prog fn_octet_Size sg_octet_Size octet_Size := fn_of (P := Go.Proofs.Try.prog) (f := fn_octet_Size) (sg := sg_octet_Size) (sgs := [(fn_math_bits_Len64, sg_math_bits_Len64)]) (Gd := fun LP gs => octet_Size_g LP gs.1) (hn := []) (h := []) (math_bits_Len64, ()) ⟨math_bits_Len64_ok, trivial⟩ (by kernel_rfl) (by kernel_rfl)

/-- octet.wide -/
abbrev fn_octet_wide : FuncId := 38
def sg_octet_wide : Sig := ⟨⟨[(0, .it .i64)], []⟩, [⟨[(0, .bo)], []⟩]⟩
def octet_wide_g (LP : LPT) : Int → Option (Bool) := fun x1 =>
  bif decide ((1 : Int) ≤ x1) then some (decide (x1 ≤ (8 : Int)))
  else some false
def octet_wide : Int → Option (Bool) := octet_wide_g LOOPx
theorem octet_wide_ok : FnOK Go.Proofs.Try.prog fn_octet_wide sg_octet_wide octet_wide := fn_of (P := Go.Proofs.Try.prog) (f := fn_octet_wide) (sg := sg_octet_wide) (sgs := []) (Gd := fun LP gs => octet_wide_g LP) (hn := []) (h := []) (()) trivial (by kernel_rfl) (by kernel_rfl)

/-- octet.Fits -/
abbrev fn_octet_Fits : FuncId := 39
def sg_octet_Fits : Sig := ⟨⟨[(0, .it .u64), (1, .it .i64)], []⟩, [⟨[(0, .bo)], []⟩]⟩
def octet_Fits_g (LP : LPT) (octet_Size : Int → Option (Int)) (octet_wide : Int → Option (Bool)) : (Int × Int) → Option (Bool) := fun (x1, x2) =>
  (octet_wide x2).bind fun x3 => 
    (bif x3 then 
        ((octet_Size x1).bind fun x4 => some (decide (x4 ≤ x2)))
    else some false)
def octet_Fits : (Int × Int) → Option (Bool) := octet_Fits_g LOOPx octet_Size octet_wide
theorem octet_Fits_ok : FnOK Go.Proofs.Try.prog fn_octet_Fits sg_octet_Fits octet_Fits := fn_of (P := Go.Proofs.Try.prog) (f := fn_octet_Fits) (sg := sg_octet_Fits) (sgs := [(fn_octet_Size, sg_octet_Size), (fn_octet_wide, sg_octet_wide)]) (Gd := fun LP gs => octet_Fits_g LP gs.1 gs.2.1) (hn := []) (h := []) (octet_Size, octet_wide, ()) ⟨octet_Size_ok, octet_wide_ok, trivial⟩ (by kernel_rfl) (by kernel_rfl)

/-- slices.Clip[[]byte,byte] -/
abbrev fn_Clip_byte : FuncId := 37
def sg_Clip_byte : Sig := ⟨⟨[(0, .vs 0 (.int .u8))], []⟩, [⟨[(0, .vs 2 (.int .u8))], []⟩]⟩
def Clip_byte_g (LP : LPT) : (List Int) → Option (List Int) := fun x1 =>
  bif (decide (0 ≤ (x1.length : Int)) && decide ((x1.length : Int) ≤ (x1.length : Int))) && ((decide (0 ≤ (x1.length : Int)) && decide ((x1.length : Int) ≤ ((x1.length : Int).toNat : Int))) && (decide ((x1.length : Int).toNat = (x1.length : Int).toNat) && decide (0 < (x1.length : Int).toNat))) then some ((x1.take ((x1.length : Int).toNat)).drop 0)
    else none
def Clip_byte : (List Int) → Option (List Int) := Clip_byte_g LOOPx
theorem Clip_byte_ok : FnOK Go.Proofs.Try.prog fn_Clip_byte sg_Clip_byte Clip_byte := fn_of (P := Go.Proofs.Try.prog) (f := fn_Clip_byte) (sg := sg_Clip_byte) (sgs := []) (Gd := fun LP gs => Clip_byte_g LP) (hn := []) (h := []) (()) trivial (by kernel_rfl) (by kernel_rfl)

/-- octet.Put -/
abbrev fn_octet_Put : FuncId := 22
def sg_octet_Put : Sig := ⟨⟨[(0, .vs 0 (.int .u8)), (1, .it .u64), (2, .it .i64)], []⟩, [⟨[(0, .gr 0), (1, .it .i64)], [.gs false (.int .u8)]⟩]⟩
def octet_Put_g (LP : LPT) (octet_wide : Int → Option (Bool)) (octet_Fits : (Int × Int) → Option (Bool)) (Clip_byte : (List Int) → Option (List Int)) : ((List Int) × Int × Int) → Option (Int × List Int) := fun (x1, x2, x3) =>
  (octet_wide x3).bind fun x4 => 
    (bif !x4 then some (1, [])
    else 
      ((octet_Fits (x2, x3)).bind fun x5 => 
        (bif !x5 then some (4, [])
        else 
          ((Clip_byte x1).bind fun x6 => 
            (LP ((Int × Int × Int) × List Int) (Int × List Int) (fun ((x7, x8, x9), x10) =>
              bif decide (x9 < x8) then 
                  (bif decide (0 ≤ (IntKind.u64.wrap (IntKind.i64.wrap (x9 * (8 : Int))))) then 
                    (bif decide ((x10.length + ([IntKind.u8.wrap (x7.fdiv (2 ^ (min (IntKind.u64.wrap (IntKind.i64.wrap (x9 * (8 : Int)))).toNat IntKind.u64.bits)))]).length) * 1 ≤ 140737488355328) then some (.inl ((x7, x8, IntKind.i64.wrap (x9 + (1 : Int))), x10 ++ ([IntKind.u8.wrap (x7.fdiv (2 ^ (min (IntKind.u64.wrap (IntKind.i64.wrap (x9 * (8 : Int)))).toNat IntKind.u64.bits)))])))
                      else none)
                    else none)
              else some (.inr (0, x10)))
              ((x2, x3, 0), x6))))))
def octet_Put : ((List Int) × Int × Int) → Option (Int × List Int) := octet_Put_g LOOPx octet_wide octet_Fits Clip_byte
theorem octet_Put_ok : FnOK Go.Proofs.Try.prog fn_octet_Put sg_octet_Put octet_Put := fn_of (P := Go.Proofs.Try.prog) (f := fn_octet_Put) (sg := sg_octet_Put) (sgs := [(fn_octet_wide, sg_octet_wide), (fn_octet_Fits, sg_octet_Fits), (fn_Clip_byte, sg_Clip_byte)]) (Gd := fun LP gs => octet_Put_g LP gs.1 gs.2.1 gs.2.2.1) (hn := []) (h := [(23, false, ⟨[(1, .it .u64), (8, .gr 0), (21, .it .i64), (22, .it .i64)], [.gs false (.int .u8)]⟩)]) (octet_wide, octet_Fits, Clip_byte, ()) ⟨octet_wide_ok, octet_Fits_ok, Clip_byte_ok, trivial⟩ (by kernel_rfl) (by kernel_rfl)

/-- octet.Cut -/
abbrev fn_octet_Cut : FuncId := 52
def sg_octet_Cut : Sig := ⟨⟨[(0, .vs 1 (.int .u8)), (1, .it .i64), (2, .it .i64)], []⟩, [⟨[(0, .vs 2 (.int .u8)), (1, .it .i64), (2, .it .i64)], []⟩]⟩
def octet_Cut_g (LP : LPT) : ((List Int) × Int × Int) → Option ((List Int) × Int × Int) := fun (x1, x2, x3) =>
  bif !(decide (x2 < (0 : Int))) then 
      (bif !(decide ((x1.length : Int) < x2)) then 
          (bif decide (x3 < (0 : Int)) then some ([], 0, 1)
          else 
            (bif decide ((IntKind.i64.wrap ((x1.length : Int) - x2)) < x3) then some ([], 0, 2)
            else 
              (bif (decide (0 ≤ IntKind.i64.wrap (x2 + x3)) && decide (IntKind.i64.wrap (x2 + x3) ≤ (x1.length : Int))) && ((decide (0 ≤ IntKind.i64.wrap (x2 + x3)) && decide (IntKind.i64.wrap (x2 + x3) ≤ ((IntKind.i64.wrap (x2 + x3)).toNat : Int))) && ((decide (0 ≤ x2) && decide (x2 ≤ ((IntKind.i64.wrap (x2 + x3)).toNat : Int))) && (decide ((IntKind.i64.wrap (x2 + x3)).toNat = (IntKind.i64.wrap (x2 + x3)).toNat) && true))) then some ((x1.take ((IntKind.i64.wrap (x2 + x3)).toNat)).drop x2.toNat, IntKind.i64.wrap (x2 + x3), 0)
                else none)))
      else some ([], 0, 1))
  else some ([], 0, 1)
def octet_Cut : ((List Int) × Int × Int) → Option ((List Int) × Int × Int) := octet_Cut_g LOOPx
theorem octet_Cut_ok : FnOK Go.Proofs.Try.prog fn_octet_Cut sg_octet_Cut octet_Cut := fn_of (P := Go.Proofs.Try.prog) (f := fn_octet_Cut) (sg := sg_octet_Cut) (sgs := []) (Gd := fun LP gs => octet_Cut_g LP) (hn := []) (h := []) (()) trivial (by kernel_rfl) (by kernel_rfl)

/-- octet.Cut -/
abbrev fn_octet_Cut0 : FuncId := 52
def sg_octet_Cut0 : Sig := ⟨⟨[(0, .vs 0 (.int .u8)), (1, .it .i64), (2, .it .i64)], []⟩, [⟨[(0, .vs 2 (.int .u8)), (1, .it .i64), (2, .it .i64)], []⟩]⟩
def octet_Cut0_g (LP : LPT) : ((List Int) × Int × Int) → Option ((List Int) × Int × Int) := fun (x1, x2, x3) =>
  bif !(decide (x2 < (0 : Int))) then 
      (bif !(decide ((x1.length : Int) < x2)) then 
          (bif decide (x3 < (0 : Int)) then some ([], 0, 1)
          else 
            (bif decide ((IntKind.i64.wrap ((x1.length : Int) - x2)) < x3) then some ([], 0, 2)
            else 
              (bif (decide (0 ≤ IntKind.i64.wrap (x2 + x3)) && decide (IntKind.i64.wrap (x2 + x3) ≤ (x1.length : Int))) && ((decide (0 ≤ IntKind.i64.wrap (x2 + x3)) && decide (IntKind.i64.wrap (x2 + x3) ≤ ((IntKind.i64.wrap (x2 + x3)).toNat : Int))) && ((decide (0 ≤ x2) && decide (x2 ≤ ((IntKind.i64.wrap (x2 + x3)).toNat : Int))) && (decide ((IntKind.i64.wrap (x2 + x3)).toNat = (IntKind.i64.wrap (x2 + x3)).toNat) && decide (x2.toNat < (IntKind.i64.wrap (x2 + x3)).toNat)))) then some ((x1.take ((IntKind.i64.wrap (x2 + x3)).toNat)).drop x2.toNat, IntKind.i64.wrap (x2 + x3), 0)
                else none)))
      else some ([], 0, 1))
  else some ([], 0, 1)
def octet_Cut0 : ((List Int) × Int × Int) → Option ((List Int) × Int × Int) := octet_Cut0_g LOOPx
theorem octet_Cut0_ok : FnOK Go.Proofs.Try.prog fn_octet_Cut0 sg_octet_Cut0 octet_Cut0 := fn_of (P := Go.Proofs.Try.prog) (f := fn_octet_Cut0) (sg := sg_octet_Cut0) (sgs := []) (Gd := fun LP gs => octet_Cut0_g LP) (hn := []) (h := []) (()) trivial (by kernel_rfl) (by kernel_rfl)

/-- octet.Take -/
abbrev fn_octet_Take : FuncId := 47
def sg_octet_Take : Sig := ⟨⟨[(0, .vs 1 (.int .u8)), (1, .it .i64), (2, .it .i64)], []⟩, [⟨[(0, .it .u64), (1, .it .i64), (2, .it .i64)], []⟩]⟩
def octet_Take_g (LP : LPT) (octet_wide : Int → Option (Bool)) (octet_Cut : ((List Int) × Int × Int) → Option ((List Int) × Int × Int)) : ((List Int) × Int × Int) → Option (Int × Int × Int) := fun (x1, x2, x3) =>
  (octet_wide x3).bind fun x4 => 
    (bif !x4 then some (0, 0, 1)
    else 
      ((octet_Cut (x1, x2, x3)).bind fun (x5, x6, x7) => 
        (LP (Int × Int × Int × (List Int) × Int × Int) (Int × Int × Int) (fun (x8, x9, x10, x11, x12, x13) =>
          bif decide (x13 < x12) then 
              (bif decide (0 ≤ x13) && decide (x13 < (x11.length : Int)) then 
                (bif decide (0 ≤ (IntKind.u64.wrap (IntKind.i64.wrap (x13 * (8 : Int))))) then some (.inl (Go.bits .or IntKind.u64 x8 (IntKind.u64.wrap ((IntKind.u64.wrap (Ty.at (.int .u8) x11 x13.toNat)) * 2 ^ (min (IntKind.u64.wrap (IntKind.i64.wrap (x13 * (8 : Int)))).toNat IntKind.u64.bits))), x9, x10, x11, x12, IntKind.i64.wrap (x13 + (1 : Int))))
                  else none)
                else none)
          else some (.inr (x8, x9, x10)))
          (0, x6, x7, x5, (x5.length : Int), 0))))
def octet_Take : ((List Int) × Int × Int) → Option (Int × Int × Int) := octet_Take_g LOOPx octet_wide octet_Cut
theorem octet_Take_ok : FnOK Go.Proofs.Try.prog fn_octet_Take sg_octet_Take octet_Take := fn_of (P := Go.Proofs.Try.prog) (f := fn_octet_Take) (sg := sg_octet_Take) (sgs := [(fn_octet_wide, sg_octet_wide), (fn_octet_Cut, sg_octet_Cut)]) (Gd := fun LP gs => octet_Take_g LP gs.1 gs.2.1) (hn := []) (h := [(16, false, ⟨[(6, .it .u64), (7, .it .i64), (8, .it .i64), (23, .vs 2 (.int .u8)), (24, .it .i64), (25, .it .i64)], []⟩)]) (octet_wide, octet_Cut, ()) ⟨octet_wide_ok, octet_Cut_ok, trivial⟩ (by kernel_rfl) (by kernel_rfl)

/-- varint.Append -/
abbrev fn_varint_Append : FuncId := 21
def sg_varint_Append : Sig := ⟨⟨[(0, .vs 0 (.int .u8)), (1, .it .u64)], []⟩, [⟨[(0, .gr 0)], [.gs true (.int .u8)]⟩]⟩
def varint_Append_g (LP : LPT) (Clip_byte : (List Int) → Option (List Int)) : ((List Int) × Int) → Option (List Int) := fun (x1, x2) =>
  (Clip_byte x1).bind fun x3 => 
    (LP (Int × List Int) (List Int) (fun (x4, x5) =>
      bif decide ((128 : Int) ≤ x4) then 
          (bif decide ((x5.length + ([Go.bits .or IntKind.u8 (IntKind.u8.wrap x4) (128 : Int)]).length) * 1 ≤ 140737488355328) then 
            (bif decide (0 ≤ (7 : Int)) then some (.inl (x4.fdiv (2 ^ (min (7 : Int).toNat IntKind.u64.bits)), x5 ++ ([Go.bits .or IntKind.u8 (IntKind.u8.wrap x4) (128 : Int)])))
              else none)
            else none)
      else 
        (inR (bif decide ((x5.length + ([IntKind.u8.wrap x4]).length) * 1 ≤ 140737488355328) then some (x5 ++ ([IntKind.u8.wrap x4]))
            else none)))
      (x2, x3))
def varint_Append : ((List Int) × Int) → Option (List Int) := varint_Append_g LOOPx Clip_byte
theorem varint_Append_ok : FnOK Go.Proofs.Try.prog fn_varint_Append sg_varint_Append varint_Append := fn_of (P := Go.Proofs.Try.prog) (f := fn_varint_Append) (sg := sg_varint_Append) (sgs := [(fn_Clip_byte, sg_Clip_byte)]) (Gd := fun LP gs => varint_Append_g LP gs.1) (hn := []) (h := [(6, false, ⟨[(1, .it .u64), (5, .gr 0)], [.gs false (.int .u8)]⟩)]) (Clip_byte, ()) ⟨Clip_byte_ok, trivial⟩ (by kernel_rfl) (by kernel_rfl)

/-- varint.Read -/
abbrev fn_varint_Read : FuncId := 54
def sg_varint_Read : Sig := ⟨⟨[(0, .vs 0 (.int .u8)), (1, .it .i64)], []⟩, [⟨[(0, .it .u64), (1, .it .i64), (2, .it .i64)], []⟩]⟩
def varint_Read_g (LP : LPT) : ((List Int) × Int) → Option (Int × Int × Int) := fun (x1, x2) =>
  bif !(decide (x2 < (0 : Int))) then 
      (bif decide ((x1.length : Int) < x2) then some (0, 0, 1)
      else 
        (bif decide (0 ≤ x2) && decide (x2 ≤ (x1.length : Int)) then 
          (LP (Int × Int × (List Int) × Int × Int) (Int × Int × Int) (fun (x3, x4, x5, x6, x7) =>
            bif decide (x7 < x6) then 
                (bif decide (0 ≤ x7) && decide (x7 < (x5.length : Int)) then 
                  (Option.bind (α := (Int × Int × Int × Int × (List Int) × Int × Int) ⊕ ((Int × Int × (List Int) × Int × Int) ⊕ (Int × Int × Int))) (β := (Int × Int × (List Int) × Int × Int) ⊕ (Int × Int × Int)) (bif decide (x7 = (9 : Int)) then 
                        (bif decide ((1 : Int) < (Ty.at (.int .u8) x5 x7.toNat)) then some (.inr (.inr (0, 0, 4)))
                        else some (.inl (x3, x4, x7, Ty.at (.int .u8) x5 x7.toNat, x5, x6, x7)))
                    else some (.inl (x3, x4, x7, Ty.at (.int .u8) x5 x7.toNat, x5, x6, x7)))
                    fun z => match z with
                    | .inl (x8, x9, x10, x11, x12, x13, x14) => bif decide (0 ≤ (IntKind.u64.wrap (IntKind.i64.wrap (x10 * (7 : Int))))) then 
                        (bif decide (x11 < (128 : Int)) then 
                            (bif decide (x11 = (0 : Int)) then 
                                (bif decide ((0 : Int) < x10) then some (.inr (0, 0, 3))
                                else some (.inr (Go.bits .or IntKind.u64 x9 (IntKind.u64.wrap ((IntKind.u64.wrap (Go.bits .and IntKind.u8 x11 (127 : Int))) * 2 ^ (min (IntKind.u64.wrap (IntKind.i64.wrap (x10 * (7 : Int)))).toNat IntKind.u64.bits))), IntKind.i64.wrap ((IntKind.i64.wrap (x8 + x10)) + (1 : Int)), 0)))
                            else some (.inr (Go.bits .or IntKind.u64 x9 (IntKind.u64.wrap ((IntKind.u64.wrap (Go.bits .and IntKind.u8 x11 (127 : Int))) * 2 ^ (min (IntKind.u64.wrap (IntKind.i64.wrap (x10 * (7 : Int)))).toNat IntKind.u64.bits))), IntKind.i64.wrap ((IntKind.i64.wrap (x8 + x10)) + (1 : Int)), 0)))
                        else some (.inl (x8, Go.bits .or IntKind.u64 x9 (IntKind.u64.wrap ((IntKind.u64.wrap (Go.bits .and IntKind.u8 x11 (127 : Int))) * 2 ^ (min (IntKind.u64.wrap (IntKind.i64.wrap (x10 * (7 : Int)))).toNat IntKind.u64.bits))), x12, x13, IntKind.i64.wrap (x14 + (1 : Int)))))
                        else none
                    | .inr o => some o)
                  else none)
            else some (.inr (0, 0, 2)))
            (x2, 0, (x1.take x1.length).drop x2.toNat, (((x1.take x1.length).drop x2.toNat).length : Int), 0))
          else none))
  else some (0, 0, 1)
def varint_Read : ((List Int) × Int) → Option (Int × Int × Int) := varint_Read_g LOOPx
theorem varint_Read_ok : FnOK Go.Proofs.Try.prog fn_varint_Read sg_varint_Read varint_Read := fn_of (P := Go.Proofs.Try.prog) (f := fn_varint_Read) (sg := sg_varint_Read) (sgs := []) (Gd := fun LP gs => varint_Read_g LP) (hn := []) (h := [(14, false, ⟨[(1, .it .i64), (4, .it .u64), (19, .vs 0 (.int .u8)), (20, .it .i64), (21, .it .i64)], []⟩), (26, true, ⟨[(1, .it .i64), (4, .it .u64), (7, .it .i64), (8, .it .u8), (19, .vs 0 (.int .u8)), (20, .it .i64), (21, .it .i64)], []⟩)]) (()) trivial (by kernel_rfl) (by kernel_rfl)

/-- slices.Clone[[]byte,byte] -/
abbrev fn_Clone_byte : FuncId := 48
def sg_Clone_byte : Sig := sgClone (.int .u8)
def Clone_byte : (List Int) → Option (List Int) := cloneG (.int .u8) 1
theorem Clone_byte_ok : FnOK Go.Proofs.Try.prog fn_Clone_byte sg_Clone_byte Clone_byte := clone_ok (.int .u8) 1 (by kernel_rfl) (by kernel_rfl) (by kernel_rfl)

/-- torporref03.down -/
abbrev fn_torporref03_down : FuncId := 51
def sg_torporref03_down : Sig := ⟨⟨[(0, .it .u32)], []⟩, [⟨[(0, .it .u32)], []⟩]⟩
def torporref03_down_g (LP : LPT) : Int → Option (Int) := fun x1 =>
  LP (Int × Int) (Int) (fun (x2, x3) =>
    bif decide (x3 < (8 : Int)) then 
        (bif !decide ((2 : Int) = 0) then 
          (bif !decide ((2 : Int) = 0) then 
            (bif decide ((x2.tmod (2 : Int)) = (1 : Int)) then some (.inl (Go.bits .xor IntKind.u32 (IntKind.u32.wrap (x2.tdiv (2 : Int))) (3988292384 : Int), IntKind.i64.wrap (x3 + (1 : Int))))
            else some (.inl (IntKind.u32.wrap (x2.tdiv (2 : Int)), IntKind.i64.wrap (x3 + (1 : Int)))))
            else none)
          else none)
    else some (.inr x2))
    (x1, 0)
def torporref03_down : Int → Option (Int) := torporref03_down_g LOOPx
theorem torporref03_down_ok : FnOK Go.Proofs.Try.prog fn_torporref03_down sg_torporref03_down torporref03_down := fn_of (P := Go.Proofs.Try.prog) (f := fn_torporref03_down) (sg := sg_torporref03_down) (sgs := []) (Gd := fun LP gs => torporref03_down_g LP) (hn := []) (h := [(6, false, ⟨[(0, .it .u32), (3, .it .i64)], []⟩)]) (()) trivial (by kernel_rfl) (by kernel_rfl)

/-- torporref03.Go -/
abbrev fn_torporref03_Go : FuncId := 44
def sg_torporref03_Go : Sig := ⟨⟨[(0, .it .u32), (1, .vs 0 (.int .u8))], []⟩, [⟨[(0, .it .u32)], []⟩]⟩
def torporref03_Go_g (LP : LPT) (torporref03_down : Int → Option (Int)) : (Int × List Int) → Option (Int) := fun (x1, x2) =>
  LP (Int × (List Int) × Int) (Int) (fun (x3, x4, x5) =>
    bif decide (x5 < (x4.length : Int)) then 
        (bif decide (0 ≤ x5) && decide (x5 < (x4.length : Int)) then 
          ((torporref03_down (Go.bits .xor IntKind.u32 x3 (IntKind.u32.wrap (Ty.at (.int .u8) x4 x5.toNat)))).bind fun x6 => some (.inl (x6, x4, IntKind.i64.wrap (x5 + (1 : Int)))))
          else none)
    else some (.inr x3))
    (x1, x2, 0)
def torporref03_Go : (Int × List Int) → Option (Int) := torporref03_Go_g LOOPx torporref03_down
theorem torporref03_Go_ok : FnOK Go.Proofs.Try.prog fn_torporref03_Go sg_torporref03_Go torporref03_Go := fn_of (P := Go.Proofs.Try.prog) (f := fn_torporref03_Go) (sg := sg_torporref03_Go) (sgs := [(fn_torporref03_down, sg_torporref03_down)]) (Gd := fun LP gs => torporref03_Go_g LP gs.1) (hn := []) (h := [(6, false, ⟨[(0, .it .u32), (1, .vs 0 (.int .u8)), (5, .it .i64)], []⟩)]) (torporref03_down, ()) ⟨torporref03_down_ok, trivial⟩ (by kernel_rfl) (by kernel_rfl)

/-- torporref03.Sum -/
abbrev fn_torporref03_Sum : FuncId := 27
def sg_torporref03_Sum : Sig := ⟨⟨[(0, .vs 0 (.int .u8))], []⟩, [⟨[(0, .it .u32)], []⟩]⟩
def torporref03_Sum_g (LP : LPT) (torporref03_Go : (Int × List Int) → Option (Int)) : (List Int) → Option (Int) := fun x1 =>
  (torporref03_Go (4294967295, x1)).bind fun x2 => some (IntKind.u32.wrap ((4294967295 : Int) - x2))
def torporref03_Sum : (List Int) → Option (Int) := torporref03_Sum_g LOOPx torporref03_Go
theorem torporref03_Sum_ok : FnOK Go.Proofs.Try.prog fn_torporref03_Sum sg_torporref03_Sum torporref03_Sum := fn_of (P := Go.Proofs.Try.prog) (f := fn_torporref03_Sum) (sg := sg_torporref03_Sum) (sgs := [(fn_torporref03_Go, sg_torporref03_Go)]) (Gd := fun LP gs => torporref03_Sum_g LP gs.1) (hn := []) (h := []) (torporref03_Go, ()) ⟨torporref03_Go_ok, trivial⟩ (by kernel_rfl) (by kernel_rfl)

/-- crc.Sum -/
abbrev sg_crc_Sum : Sig := sgCrcSum
def crc_Sum : (List Int) → Option (Int) := crcG
theorem crc_Sum_ok : FnOK Go.Proofs.Try.prog fn_crc_Sum sg_crc_Sum crc_Sum := crcSum_ok

/-- slices.Grow[[]byte,byte] -/
abbrev fn_Grow_byte : FuncId := 42
def sg_Grow_byte : Sig := ⟨⟨[(0, .sn), (1, .it .i64)], []⟩, [⟨[(0, .gr 0)], [.gs true (.int .u8)]⟩]⟩
def Grow_byte_g (LP : LPT) : Int → Option (List Int) := fun x1 =>
  bif decide (x1 < (0 : Int)) then none
  else 
    (bif decide ((0 : Int) < (IntKind.i64.wrap (x1 - (IntKind.i64.wrap ((0 : Int) - (0 : Int)))))) then 
        (bif (decide (0 ≤ 0) && decide (0 ≤ (0 : Int))) && true then 
          (bif decide (0 ≤ IntKind.i64.wrap (x1 - (IntKind.i64.wrap ((0 : Int) - (0 : Int))))) && (decide (IntKind.i64.wrap (x1 - (IntKind.i64.wrap ((0 : Int) - (0 : Int)))) ≤ 9223372036854775807) && decide ((IntKind.i64.wrap (x1 - (IntKind.i64.wrap ((0 : Int) - (0 : Int))))).toNat * 1 ≤ 140737488355328)) then 
            (bif decide (0 ≤ 0) && decide (0 ≤ ((List.replicate (IntKind.i64.wrap (x1 - (IntKind.i64.wrap ((0 : Int) - (0 : Int))))).toNat (0 : Int)).length : Int)) then some ((List.replicate (IntKind.i64.wrap (x1 - (IntKind.i64.wrap ((0 : Int) - (0 : Int))))).toNat (0 : Int)).take (0 : Int).toNat)
              else none)
            else none)
          else none)
    else some ([]))
def Grow_byte : Int → Option (List Int) := Grow_byte_g LOOPx
theorem Grow_byte_ok : FnOK Go.Proofs.Try.prog fn_Grow_byte sg_Grow_byte Grow_byte := fn_of (P := Go.Proofs.Try.prog) (f := fn_Grow_byte) (sg := sg_Grow_byte) (sgs := []) (Gd := fun LP gs => Grow_byte_g LP) (hn := [(25, .int .u8)]) (h := []) (()) trivial (by kernel_rfl) (by kernel_rfl)

/-- slices.Concat[[]byte,byte] -/
abbrev fn_Concat_byte : FuncId := 24
def sg_Concat_byte : Sig := ⟨⟨[(0, .vs 0 (.sl (.int .u8)))], []⟩, [⟨[(0, .gr 0)], [.gs true (.int .u8)]⟩]⟩
def Concat_byte_g (LP : LPT) (Grow_byte : Int → Option (List Int)) : (List (List Int)) → Option (List Int) := fun x1 =>
  Option.bind (α := ((List (List Int)) × Int) ⊕ (List Int)) (β := List Int) (LP ((List (List Int)) × Int × (List (List Int)) × Int × Int) (((List (List Int)) × Int) ⊕ (List Int)) (fun (x2, x3, x4, x5, x6) =>
      bif decide (x6 < x5) then 
          (bif decide (0 ≤ x6) && decide (x6 < (x4.length : Int)) then 
            (bif decide ((IntKind.i64.wrap (x3 + ((Ty.at (.sl (.int .u8)) x4 x6.toNat).length : Int))) < (0 : Int)) then none
            else some (.inl (x2, IntKind.i64.wrap (x3 + ((Ty.at (.sl (.int .u8)) x4 x6.toNat).length : Int)), x4, x5, IntKind.i64.wrap (x6 + (1 : Int)))))
            else none)
      else some (.inr (.inl (x2, x3))))
      (x1, 0, x1, (x1.length : Int), 0))
    fun z => match z with
    | .inl (x7, x8) => (Grow_byte x8).bind fun x9 => 
        (LP (((List (List Int)) × Int × Int) × List Int) (List Int) (fun ((x10, x11, x12), x13) =>
          bif decide (x12 < x11) then 
              (bif decide (0 ≤ x12) && decide (x12 < (x10.length : Int)) then 
                (bif decide ((x13.length + (Ty.at (.sl (.int .u8)) x10 x12.toNat).length) * 1 ≤ 140737488355328) then some (.inl ((x10, x11, IntKind.i64.wrap (x12 + (1 : Int))), x13 ++ (Ty.at (.sl (.int .u8)) x10 x12.toNat)))
                  else none)
                else none)
          else some (.inr x13))
          ((x7, (x7.length : Int), 0), x9))
    | .inr o => some o
def Concat_byte : (List (List Int)) → Option (List Int) := Concat_byte_g LOOPx Grow_byte
theorem Concat_byte_ok : FnOK Go.Proofs.Try.prog fn_Concat_byte sg_Concat_byte Concat_byte := fn_of (P := Go.Proofs.Try.prog) (f := fn_Concat_byte) (sg := sg_Concat_byte) (sgs := [(fn_Grow_byte, sg_Grow_byte)]) (Gd := fun LP gs => Concat_byte_g LP gs.1) (hn := []) (h := [(5, true, ⟨[(0, .vs 0 (.sl (.int .u8))), (3, .it .i64)], []⟩), (8, false, ⟨[(0, .vs 0 (.sl (.int .u8))), (3, .it .i64), (9, .vs 0 (.sl (.int .u8))), (10, .it .i64), (11, .it .i64)], []⟩), (33, false, ⟨[(6, .gr 0), (25, .vs 0 (.sl (.int .u8))), (26, .it .i64), (27, .it .i64)], [.gs true (.int .u8)]⟩)]) (Grow_byte, ()) ⟨Grow_byte_ok, trivial⟩ (by kernel_rfl) (by kernel_rfl)

/-- torporref04.Append -/
abbrev fn_torporref04_Append : FuncId := 10
def sg_torporref04_Append : Sig := ⟨⟨[(0, .vs 0 (.int .u8)), (1, .ag [.it .u8, .vs 0 (.int .u8)])], []⟩, [⟨[(0, .gr 0), (1, .it .i64)], [.gs true (.int .u8)]⟩]⟩
def torporref04_Append_g (LP : LPT) (torporref01_Put : ((List Int) × Int × Int) → Option (Int × List Int)) (torporref02_Append : ((List Int) × Int) → Option (List Int)) (torporref03_Sum : (List Int) → Option (Int)) : ((List Int) × Int × List Int) → Option (Int × List Int) := fun (x1, x2, x3) =>
  bif decide (x2 = (0 : Int)) then some (3, [])
  else 
    (bif decide ((65535 : Int) < (x3.length : Int)) then some (4, [])
    else 
      ((torporref02_Append ([x2], IntKind.u64.wrap (x3.length : Int))).bind fun x4 => 
        (bif decide ((x4.length + x3.length) * 1 ≤ 140737488355328) then 
          ((torporref03_Sum (x4 ++ x3)).bind fun x5 => 
            ((torporref01_Put (x4 ++ x3, IntKind.u64.wrap x5, 4)).bind fun (x6, x7) => 
              (bif decide ((([] : List Int).length + x1.length) * 1 ≤ 140737488355328) then 
                (bif decide (((([] : List Int) ++ x1).length + x7.length) * 1 ≤ 140737488355328) then some (0, (([] : List Int) ++ x1) ++ x7)
                  else none)
                else none)))
          else none)))
def torporref04_Append : ((List Int) × Int × List Int) → Option (Int × List Int) := torporref04_Append_g LOOPx torporref01_Put torporref02_Append torporref03_Sum
theorem torporref04_Append_ok : FnOK Go.Proofs.Try.prog fn_torporref04_Append sg_torporref04_Append torporref04_Append := fn_of (P := Go.Proofs.Try.prog) (f := fn_torporref04_Append) (sg := sg_torporref04_Append) (sgs := [(fn_torporref01_Put, sg_torporref01_Put), (fn_torporref02_Append, sg_torporref02_Append), (fn_torporref03_Sum, sg_torporref03_Sum)]) (Gd := fun LP gs => torporref04_Append_g LP gs.1 gs.2.1 gs.2.2.1) (hn := []) (h := []) (torporref01_Put, torporref02_Append, torporref03_Sum, ()) ⟨torporref01_Put_ok, torporref02_Append_ok, torporref03_Sum_ok, trivial⟩ (by kernel_rfl) (by kernel_rfl)

/-- torporref04.Read -/
abbrev fn_torporref04_Read : FuncId := 12
def sg_torporref04_Read : Sig := ⟨⟨[(0, .vs 0 (.int .u8)), (1, .it .i64)], []⟩, [⟨[(0, .ag [.it .u8, .gr 0]), (1, .it .i64), (2, .it .i64)], [.gs true (.int .u8)]⟩]⟩
def torporref04_Read_g (LP : LPT) (torporref01_Cut : ((List Int) × Int × Int) → Option ((Int × Int) × List Int)) (torporref01_Take : ((List Int) × Int × Int) → Option (Int × Int × Int)) (torporref02_Read : ((List Int) × Int) → Option (Int × Int × Int)) (torporref03_Sum : (List Int) → Option (Int)) : ((List Int) × Int) → Option ((Int × Int × Int) × List Int) := fun (x1, x2) =>
  bif !(decide (x2 < (0 : Int))) then 
      (bif decide ((x1.length : Int) < x2) then some ((0, 0, 1), [])
      else 
        (bif decide (x2 = (x1.length : Int)) then some ((0, 0, 2), [])
        else 
          (bif decide (0 ≤ x2) && decide (x2 < (x1.length : Int)) then 
            (bif decide ((Ty.at (.int .u8) x1 x2.toNat) = (0 : Int)) then some ((0, 0, 3), [])
            else 
              ((torporref02_Read (x1, IntKind.i64.wrap (x2 + (1 : Int)))).bind fun (x3, x4, x5) => 
                (bif !decide (x5 = (0 : Int)) then some ((0, 0, x5), [])
                else 
                  (bif decide ((65535 : Int) < x3) then some ((0, 0, 4), [])
                  else 
                    ((torporref01_Cut (x1, x4, IntKind.i64.wrap x3)).bind fun ((x6, x7), x8) => 
                      (bif !decide (x7 = (0 : Int)) then some ((0, 0, x7), [])
                      else 
                        ((torporref01_Take (x1, x6, 4)).bind fun (x9, x10, x11) => 
                          (bif !decide (x11 = (0 : Int)) then some ((0, 0, x11), [])
                          else 
                            (bif (decide (0 ≤ x6) && decide (x6 ≤ (x1.length : Int))) && (decide (0 ≤ x2) && decide (x2 ≤ (x6.toNat : Int))) then 
                              ((torporref03_Sum ((x1.take x6.toNat).drop x2.toNat)).bind fun x12 => 
                                (bif !decide ((IntKind.u64.wrap x12) = x9) then some ((0, 0, 5), [])
                                else 
                                  (bif decide (0 ≤ x2) && decide (x2 < (x1.length : Int)) then some ((Ty.at (.int .u8) x1 x2.toNat, x10, 0), x8)
                                    else none)))
                              else none)))))))))
            else none)))
  else some ((0, 0, 1), [])
def torporref04_Read : ((List Int) × Int) → Option ((Int × Int × Int) × List Int) := torporref04_Read_g LOOPx torporref01_Cut torporref01_Take torporref02_Read torporref03_Sum
theorem torporref04_Read_ok : FnOK Go.Proofs.Try.prog fn_torporref04_Read sg_torporref04_Read torporref04_Read := fn_of (P := Go.Proofs.Try.prog) (f := fn_torporref04_Read) (sg := sg_torporref04_Read) (sgs := [(fn_torporref01_Cut, sg_torporref01_Cut), (fn_torporref01_Take, sg_torporref01_Take), (fn_torporref02_Read, sg_torporref02_Read), (fn_torporref03_Sum, sg_torporref03_Sum)]) (Gd := fun LP gs => torporref04_Read_g LP gs.1 gs.2.1 gs.2.2.1 gs.2.2.2.1) (hn := []) (h := []) (torporref01_Cut, torporref01_Take, torporref02_Read, torporref03_Sum, ()) ⟨torporref01_Cut_ok, torporref01_Take_ok, torporref02_Read_ok, torporref03_Sum_ok, trivial⟩ (by kernel_rfl) (by kernel_rfl)

/-- torporref04.All -/
abbrev fn_torporref04_All : FuncId := 18
def sg_torporref04_All : Sig := ⟨⟨[(0, .vs 0 (.pr (.int .u8) (.sl (.int .u8))))], []⟩, [⟨[(0, .gr 0), (1, .it .i64)], [.gs true (.int .u8)]⟩]⟩
def torporref04_All_g (LP : LPT) (torporref04_Append : ((List Int) × Int × List Int) → Option (Int × List Int)) : (List (Int × List Int)) → Option (Int × List Int) := fun x1 =>
  LP (((List (Int × List Int)) × Int) × List Int) (Int × List Int) (fun ((x2, x3), x4) =>
    bif decide (x3 < (x2.length : Int)) then 
        (Option.bind (α := (((List (Int × List Int)) × Int) × List Int) ⊕ ((((List (Int × List Int)) × Int) × List Int) ⊕ (Int × List Int))) (β := (((List (Int × List Int)) × Int) × List Int) ⊕ (Int × List Int)) (bif decide (0 ≤ x3) && decide (x3 < (x2.length : Int)) then 
            (bif !(decide (((Ty.at (.pr (.int .u8) (.sl (.int .u8))) x2 x3.toNat).1) = (0 : Int))) then 
                (bif decide ((0 : Int) < x3) then 
                    (bif decide (0 ≤ x3) && decide (x3 < (x2.length : Int)) then 
                      (bif decide (0 ≤ IntKind.i64.wrap (x3 - (1 : Int))) && decide (IntKind.i64.wrap (x3 - (1 : Int)) < (x2.length : Int)) then 
                        (bif decide (((Ty.at (.pr (.int .u8) (.sl (.int .u8))) x2 x3.toNat).1) ≤ ((Ty.at (.pr (.int .u8) (.sl (.int .u8))) x2 ((IntKind.i64.wrap (x3 - (1 : Int))).toNat)).1)) then some (.inr (.inr (3, [])))
                        else some (.inl ((x2, x3), x4)))
                        else none)
                      else none)
                else some (.inl ((x2, x3), x4)))
            else some (.inr (.inr (3, []))))
            else none)
          fun z => match z with
          | .inl ((x5, x6), x7) => bif decide (0 ≤ x6) && decide (x6 < (x5.length : Int)) then 
              ((torporref04_Append (x7, (Ty.at (.pr (.int .u8) (.sl (.int .u8))) x5 x6.toNat).1, (Ty.at (.pr (.int .u8) (.sl (.int .u8))) x5 x6.toNat).2)).bind fun (x8, x9) => 
                (bif !decide (x8 = (0 : Int)) then some (.inr (x8, []))
                else some (.inl ((x5, IntKind.i64.wrap (x6 + (1 : Int))), x9))))
              else none
          | .inr o => some o)
    else some (.inr (0, x4)))
    ((x1, 0), [])
def torporref04_All : (List (Int × List Int)) → Option (Int × List Int) := torporref04_All_g LOOPx torporref04_Append
theorem torporref04_All_ok : FnOK Go.Proofs.Try.prog fn_torporref04_All sg_torporref04_All torporref04_All := fn_of (P := Go.Proofs.Try.prog) (f := fn_torporref04_All) (sg := sg_torporref04_All) (sgs := [(fn_torporref04_Append, sg_torporref04_Append)]) (Gd := fun LP gs => torporref04_All_g LP gs.1) (hn := []) (h := [(8, false, ⟨[(0, .vs 0 (.pr (.int .u8) (.sl (.int .u8)))), (4, .gr 0), (5, .it .i64)], [.gs true (.int .u8)]⟩), (18, true, ⟨[(0, .vs 0 (.pr (.int .u8) (.sl (.int .u8)))), (4, .gr 0), (5, .it .i64)], [.gs true (.int .u8)]⟩)]) (torporref04_Append, ()) ⟨torporref04_Append_ok, trivial⟩ (by kernel_rfl) (by kernel_rfl)

/-- torporref04.List -/
abbrev fn_torporref04_List : FuncId := 14
def sg_torporref04_List : Sig := ⟨⟨[(0, .vs 0 (.int .u8))], []⟩, [⟨[(0, .gr 0), (1, .it .i64)], [.gs true (.pr (.int .u8) (.sl (.int .u8)))]⟩]⟩
def torporref04_List_g (LP : LPT) (torporref04_Read : ((List Int) × Int) → Option ((Int × Int × Int) × List Int)) : (List Int) → Option (Int × List (Int × List Int)) := fun x1 =>
  LP (((List Int) × Int) × List (Int × List Int)) (Int × List (Int × List Int)) (fun ((x2, x3), x4) =>
    bif decide (x3 < (x2.length : Int)) then 
        ((torporref04_Read (x2, x3)).bind fun ((x5, x6, x7), x8) => 
          (bif !decide (x7 = (0 : Int)) then some (.inr (x7, []))
          else 
            (bif decide ((0 : Int) < (x4.length : Int)) then 
                (bif decide (0 ≤ IntKind.i64.wrap ((x4.length : Int) - (1 : Int))) && decide (IntKind.i64.wrap ((x4.length : Int) - (1 : Int)) < (x4.length : Int)) then 
                  (bif decide ((IntKind.i64.wrap ((x4.length : Int) - (1 : Int))).toNat < x4.length) then 
                    (bif decide (x5 ≤ ((Ty.at (.pr (.int .u8) (.sl (.int .u8))) x4 ((IntKind.i64.wrap ((x4.length : Int) - (1 : Int))).toNat)).1)) then some (.inr (3, []))
                    else 
                      (bif decide ((x4.length + ([(x5, x8)]).length) * 32 ≤ 140737488355328) then some (.inl ((x2, x6), x4 ++ ([(x5, x8)])))
                        else none))
                    else none)
                  else none)
            else 
              (bif decide ((x4.length + ([(x5, x8)]).length) * 32 ≤ 140737488355328) then some (.inl ((x2, x6), x4 ++ ([(x5, x8)])))
                else none))))
    else some (.inr (0, x4)))
    ((x1, 0), [])
def torporref04_List : (List Int) → Option (Int × List (Int × List Int)) := torporref04_List_g LOOPx torporref04_Read
theorem torporref04_List_ok : FnOK Go.Proofs.Try.prog fn_torporref04_List sg_torporref04_List torporref04_List := fn_of (P := Go.Proofs.Try.prog) (f := fn_torporref04_List) (sg := sg_torporref04_List) (sgs := [(fn_torporref04_Read, sg_torporref04_Read)]) (Gd := fun LP gs => torporref04_List_g LP gs.1) (hn := []) (h := [(8, false, ⟨[(0, .vs 0 (.int .u8)), (4, .gr 0), (5, .it .i64)], [.gs true (.pr (.int .u8) (.sl (.int .u8)))]⟩)]) (torporref04_Read, ()) ⟨torporref04_Read_ok, trivial⟩ (by kernel_rfl) (by kernel_rfl)

/-- torporref04.Same -/
abbrev fn_torporref04_Same : FuncId := 15
def sg_torporref04_Same : Sig := ⟨⟨[(0, .vs 0 (.pr (.int .u8) (.sl (.int .u8)))), (1, .vs 0 (.pr (.int .u8) (.sl (.int .u8))))], []⟩, [⟨[(0, .bo)], []⟩]⟩
def torporref04_Same_g (LP : LPT) : ((List (Int × List Int)) × List (Int × List Int)) → Option (Bool) := fun (x1, x2) =>
  bif !decide ((x1.length : Int) = (x2.length : Int)) then some false
  else 
    (LP ((List (Int × List Int)) × (List (Int × List Int)) × Int) (Bool) (fun (x3, x4, x5) =>
      bif decide (x5 < (x3.length : Int)) then 
          (bif decide (0 ≤ x5) && decide (x5 < (x3.length : Int)) then 
            (bif decide (0 ≤ x5) && decide (x5 < (x4.length : Int)) then 
              (bif !(!decide (((Ty.at (.pr (.int .u8) (.sl (.int .u8))) x3 x5.toNat).1) = ((Ty.at (.pr (.int .u8) (.sl (.int .u8))) x4 x5.toNat).1))) then 
                  (bif decide (0 ≤ x5) && decide (x5 < (x3.length : Int)) then 
                    (bif decide (0 ≤ x5) && decide (x5 < (x4.length : Int)) then 
                      (bif !((bst ((Ty.at (.pr (.int .u8) (.sl (.int .u8))) x3 x5.toNat).2)).toList == (bst ((Ty.at (.pr (.int .u8) (.sl (.int .u8))) x4 x5.toNat).2)).toList) then some (.inr false)
                      else some (.inl (x3, x4, IntKind.i64.wrap (x5 + (1 : Int)))))
                      else none)
                    else none)
              else some (.inr false))
              else none)
            else none)
      else some (.inr true))
      (x1, x2, 0))
def torporref04_Same : ((List (Int × List Int)) × List (Int × List Int)) → Option (Bool) := torporref04_Same_g LOOPx
theorem torporref04_Same_ok : FnOK Go.Proofs.Try.prog fn_torporref04_Same sg_torporref04_Same torporref04_Same := fn_of (P := Go.Proofs.Try.prog) (f := fn_torporref04_Same) (sg := sg_torporref04_Same) (sgs := []) (Gd := fun LP gs => torporref04_Same_g LP) (hn := []) (h := [(14, false, ⟨[(0, .vs 0 (.pr (.int .u8) (.sl (.int .u8)))), (1, .vs 0 (.pr (.int .u8) (.sl (.int .u8)))), (5, .it .i64)], []⟩)]) (()) trivial (by kernel_rfl) (by kernel_rfl)

/-- torporref04.Great -/
abbrev fn_torporref04_Great : FuncId := 16
def sg_torporref04_Great : Sig := ⟨⟨[(0, .vs 0 (.pr (.int .u8) (.sl (.int .u8))))], []⟩, [⟨[(0, .bo)], []⟩]⟩
def torporref04_Great_g (LP : LPT) : (List (Int × List Int)) → Option (Bool) := fun x1 =>
  LP ((List (Int × List Int)) × Int × Int) (Bool) (fun (x2, x3, x4) =>
    bif decide (x4 < (x2.length : Int)) then 
        (bif decide (x3 ≤ (1000 : Int)) then 
            (bif decide (0 ≤ x4) && decide (x4 < (x2.length : Int)) then some (.inl (x2, IntKind.i64.wrap ((IntKind.i64.wrap (x3 + (1 : Int))) + (bif decide ((70000 : Int) < (((Ty.at (.pr (.int .u8) (.sl (.int .u8))) x2 x4.toNat).2).length : Int)) then 70000 else (((Ty.at (.pr (.int .u8) (.sl (.int .u8))) x2 x4.toNat).2).length : Int))), IntKind.i64.wrap (x4 + (1 : Int))))
              else none)
        else some (.inr (decide ((1000 : Int) < x3))))
    else some (.inr (decide ((1000 : Int) < x3))))
    (x1, 0, 0)
def torporref04_Great : (List (Int × List Int)) → Option (Bool) := torporref04_Great_g LOOPx
theorem torporref04_Great_ok : FnOK Go.Proofs.Try.prog fn_torporref04_Great sg_torporref04_Great torporref04_Great := fn_of (P := Go.Proofs.Try.prog) (f := fn_torporref04_Great) (sg := sg_torporref04_Great) (sgs := []) (Gd := fun LP gs => torporref04_Great_g LP) (hn := []) (h := [(8, false, ⟨[(0, .vs 0 (.pr (.int .u8) (.sl (.int .u8)))), (3, .it .i64), (4, .it .i64)], []⟩)]) (()) trivial (by kernel_rfl) (by kernel_rfl)

/-- section.Append -/
abbrev fn_section_Append : FuncId := 9
def sg_section_Append : Sig := ⟨⟨[(0, .vs 0 (.int .u8)), (1, .ag [.it .u8, .vs 0 (.int .u8)])], []⟩, [⟨[(0, .gr 0), (1, .it .i64)], [.gs true (.int .u8)]⟩]⟩
def section_Append_g (LP : LPT) (octet_Put : ((List Int) × Int × Int) → Option (Int × List Int)) (varint_Append : ((List Int) × Int) → Option (List Int)) (crc_Sum : (List Int) → Option (Int)) (Concat_byte : (List (List Int)) → Option (List Int)) : ((List Int) × Int × List Int) → Option (Int × List Int) := fun (x1, x2, x3) =>
  bif decide (x2 = (0 : Int)) then some (3, [])
  else 
    (bif decide ((65535 : Int) < (x3.length : Int)) then some (4, [])
    else 
      ((varint_Append ([x2], IntKind.u64.wrap (x3.length : Int))).bind fun x4 => 
        (bif decide ((x4.length + x3.length) * 1 ≤ 140737488355328) then 
          ((crc_Sum (x4 ++ x3)).bind fun x5 => 
            ((octet_Put (x4 ++ x3, IntKind.u64.wrap x5, 4)).bind fun (x6, x7) => 
              ((Concat_byte ([x1, x7])).bind fun x8 => some (0, x8))))
          else none)))
def section_Append : ((List Int) × Int × List Int) → Option (Int × List Int) := section_Append_g LOOPx octet_Put varint_Append crc_Sum Concat_byte
theorem section_Append_ok : FnOK Go.Proofs.Try.prog fn_section_Append sg_section_Append section_Append := fn_of (P := Go.Proofs.Try.prog) (f := fn_section_Append) (sg := sg_section_Append) (sgs := [(fn_octet_Put, sg_octet_Put), (fn_varint_Append, sg_varint_Append), (fn_crc_Sum, sg_crc_Sum), (fn_Concat_byte, sg_Concat_byte)]) (Gd := fun LP gs => section_Append_g LP gs.1 gs.2.1 gs.2.2.1 gs.2.2.2.1) (hn := []) (h := []) (octet_Put, varint_Append, crc_Sum, Concat_byte, ()) ⟨octet_Put_ok, varint_Append_ok, crc_Sum_ok, Concat_byte_ok, trivial⟩ (by kernel_rfl) (by kernel_rfl)

/-- section.All -/
abbrev fn_section_All : FuncId := 17
def sg_section_All : Sig := ⟨⟨[(0, .vs 0 (.pr (.int .u8) (.sl (.int .u8))))], []⟩, [⟨[(0, .gr 0), (1, .it .i64)], [.gs true (.int .u8)]⟩]⟩
def section_All_g (LP : LPT) (section_Append : ((List Int) × Int × List Int) → Option (Int × List Int)) : (List (Int × List Int)) → Option (Int × List Int) := fun x1 =>
  LP ((Int × (List (Int × List Int)) × Int × Int) × List Int) (Int × List Int) (fun ((x2, x3, x4, x5), x6) =>
    bif decide (x5 < x4) then 
        (bif decide (0 ≤ x5) && decide (x5 < (x3.length : Int)) then 
          (bif decide (((Ty.at (.pr (.int .u8) (.sl (.int .u8))) x3 x5.toNat).1) ≤ x2) then some (.inr (3, []))
          else 
            ((section_Append (x6, (Ty.at (.pr (.int .u8) (.sl (.int .u8))) x3 x5.toNat).1, (Ty.at (.pr (.int .u8) (.sl (.int .u8))) x3 x5.toNat).2)).bind fun (x7, x8) => 
              (bif !decide (x7 = (0 : Int)) then some (.inr (x7, []))
              else some (.inl (((Ty.at (.pr (.int .u8) (.sl (.int .u8))) x3 x5.toNat).1, x3, x4, IntKind.i64.wrap (x5 + (1 : Int))), x8)))))
          else none)
    else some (.inr (0, x6)))
    ((0, x1, (x1.length : Int), 0), [])
def section_All : (List (Int × List Int)) → Option (Int × List Int) := section_All_g LOOPx section_Append
theorem section_All_ok : FnOK Go.Proofs.Try.prog fn_section_All sg_section_All section_All := fn_of (P := Go.Proofs.Try.prog) (f := fn_section_All) (sg := sg_section_All) (sgs := [(fn_section_Append, sg_section_Append)]) (Gd := fun LP gs => section_All_g LP gs.1) (hn := []) (h := [(10, false, ⟨[(4, .gr 0), (5, .it .u8), (10, .vs 0 (.pr (.int .u8) (.sl (.int .u8)))), (11, .it .i64), (12, .it .i64)], [.gs true (.int .u8)]⟩)]) (section_Append, ()) ⟨section_Append_ok, trivial⟩ (by kernel_rfl) (by kernel_rfl)

/-- section.must -/
abbrev fn_section_must : FuncId := 53
def sg_section_must : Sig := ⟨⟨[(0, .it .i64)], []⟩, [⟨[], []⟩]⟩
def section_must_g (LP : LPT) : Int → Option (Unit ⊕ Int) := fun x1 =>
  bif !decide (x1 = (0 : Int)) then some (.inr x1)
  else some (.inl ())
def section_must : Int → Option (Unit ⊕ Int) := section_must_g LOOPx
theorem section_must_ok : FnPOK Go.Proofs.Try.prog fn_section_must sg_section_must (.fc 75 (.ag [.it .i64])) section_must := fnP_of (P := Go.Proofs.Try.prog) (f := fn_section_must) (sg := sg_section_must) (p := .fc 75 (.ag [.it .i64])) (sgs := []) (pgs := []) (Gd := fun LP gs ps => section_must_g LP) (hn := []) (h := []) (()) trivial (()) trivial (by kernel_rfl) (by kernel_rfl)

/-- (*section.reader).cut -/
abbrev fn_cut : FuncId := 45
def sg_cut : Sig := ⟨⟨[(0, .pt 0 0), (1, .it .i64)], [.va [.vs 1 (.int .u8), .it .i64]]⟩, [⟨[(0, .vs 2 (.int .u8))], [.va [.vs 1 (.int .u8), .it .i64]]⟩]⟩
def cut_g (LP : LPT) (octet_Cut : ((List Int) × Int × Int) → Option ((List Int) × Int × Int)) (section_must : Int → Option (Unit ⊕ Int)) : (Int × (List Int) × Int) → Option (((List Int) × (List Int) × Int) ⊕ Int) := fun (x1, x2, x3) =>
  (octet_Cut (x2, x3, x1)).bind fun (x4, x5, x6) => 
    ((section_must x6).bind fun x => match x with
      | .inl _ => some (.inl (x4, x2, x5))
      | .inr x7 => some (.inr x7))
def cut : (Int × (List Int) × Int) → Option (((List Int) × (List Int) × Int) ⊕ Int) := cut_g LOOPx octet_Cut section_must
theorem cut_ok : FnPOK Go.Proofs.Try.prog fn_cut sg_cut (.fc 75 (.ag [.it .i64])) cut := fnP_of (P := Go.Proofs.Try.prog) (f := fn_cut) (sg := sg_cut) (p := .fc 75 (.ag [.it .i64])) (sgs := [(fn_octet_Cut, sg_octet_Cut)]) (pgs := [(fn_section_must, sg_section_must, .fc 75 (.ag [.it .i64]))]) (Gd := fun LP gs ps => cut_g LP gs.1 ps.1) (hn := []) (h := []) (octet_Cut, ()) ⟨octet_Cut_ok, trivial⟩ (section_must, ()) ⟨section_must_ok, trivial⟩ (by kernel_rfl) (by kernel_rfl)

/-- (*section.reader).cut -/
abbrev fn_cut0 : FuncId := 45
def sg_cut0 : Sig := ⟨⟨[(0, .pt 0 0), (1, .it .i64)], [.va [.vs 0 (.int .u8), .it .i64]]⟩, [⟨[(0, .vs 2 (.int .u8))], [.va [.vs 0 (.int .u8), .it .i64]]⟩]⟩
def cut0_g (LP : LPT) (octet_Cut0 : ((List Int) × Int × Int) → Option ((List Int) × Int × Int)) (section_must : Int → Option (Unit ⊕ Int)) : (Int × (List Int) × Int) → Option (((List Int) × (List Int) × Int) ⊕ Int) := fun (x1, x2, x3) =>
  (octet_Cut0 (x2, x3, x1)).bind fun (x4, x5, x6) => 
    ((section_must x6).bind fun x => match x with
      | .inl _ => some (.inl (x4, x2, x5))
      | .inr x7 => some (.inr x7))
def cut0 : (Int × (List Int) × Int) → Option (((List Int) × (List Int) × Int) ⊕ Int) := cut0_g LOOPx octet_Cut0 section_must
theorem cut0_ok : FnPOK Go.Proofs.Try.prog fn_cut0 sg_cut0 (.fc 75 (.ag [.it .i64])) cut0 := fnP_of (P := Go.Proofs.Try.prog) (f := fn_cut0) (sg := sg_cut0) (p := .fc 75 (.ag [.it .i64])) (sgs := [(fn_octet_Cut0, sg_octet_Cut0)]) (pgs := [(fn_section_must, sg_section_must, .fc 75 (.ag [.it .i64]))]) (Gd := fun LP gs ps => cut0_g LP gs.1 ps.1) (hn := []) (h := []) (octet_Cut0, ()) ⟨octet_Cut0_ok, trivial⟩ (section_must, ()) ⟨section_must_ok, trivial⟩ (by kernel_rfl) (by kernel_rfl)

/-- (*section.reader).length -/
abbrev fn_length : FuncId := 46
def sg_length : Sig := ⟨⟨[(0, .pt 0 0)], [.va [.vs 1 (.int .u8), .it .i64]]⟩, [⟨[(0, .it .i64)], [.va [.vs 1 (.int .u8), .it .i64]]⟩]⟩
def length_g (LP : LPT) (varint_Read : ((List Int) × Int) → Option (Int × Int × Int)) (section_must : Int → Option (Unit ⊕ Int)) : ((List Int) × Int) → Option ((Int × (List Int) × Int) ⊕ Int) := fun (x1, x2) =>
  (varint_Read (x1, x2)).bind fun (x3, x4, x5) => 
    ((section_must x5).bind fun x => match x with
      | .inl _ => bif decide ((65535 : Int) < x3) then some (.inr (4 : Int))
        else some (.inl (IntKind.i64.wrap x3, x1, x4))
      | .inr x6 => some (.inr x6))
def length : ((List Int) × Int) → Option ((Int × (List Int) × Int) ⊕ Int) := length_g LOOPx varint_Read section_must
theorem length_ok : FnPOK Go.Proofs.Try.prog fn_length sg_length (.fc 75 (.ag [.it .i64])) length := fnP_of (P := Go.Proofs.Try.prog) (f := fn_length) (sg := sg_length) (p := .fc 75 (.ag [.it .i64])) (sgs := [(fn_varint_Read, sg_varint_Read)]) (pgs := [(fn_section_must, sg_section_must, .fc 75 (.ag [.it .i64]))]) (Gd := fun LP gs ps => length_g LP gs.1 ps.1) (hn := []) (h := []) (varint_Read, ()) ⟨varint_Read_ok, trivial⟩ (section_must, ()) ⟨section_must_ok, trivial⟩ (by kernel_rfl) (by kernel_rfl)

/-- (*section.reader).length -/
abbrev fn_length0 : FuncId := 46
def sg_length0 : Sig := ⟨⟨[(0, .pt 0 0)], [.va [.vs 0 (.int .u8), .it .i64]]⟩, [⟨[(0, .it .i64)], [.va [.vs 0 (.int .u8), .it .i64]]⟩]⟩
def length0_g (LP : LPT) (varint_Read : ((List Int) × Int) → Option (Int × Int × Int)) (section_must : Int → Option (Unit ⊕ Int)) : ((List Int) × Int) → Option ((Int × (List Int) × Int) ⊕ Int) := fun (x1, x2) =>
  (varint_Read (x1, x2)).bind fun (x3, x4, x5) => 
    ((section_must x5).bind fun x => match x with
      | .inl _ => bif decide ((65535 : Int) < x3) then some (.inr (4 : Int))
        else some (.inl (IntKind.i64.wrap x3, x1, x4))
      | .inr x6 => some (.inr x6))
def length0 : ((List Int) × Int) → Option ((Int × (List Int) × Int) ⊕ Int) := length0_g LOOPx varint_Read section_must
theorem length0_ok : FnPOK Go.Proofs.Try.prog fn_length0 sg_length0 (.fc 75 (.ag [.it .i64])) length0 := fnP_of (P := Go.Proofs.Try.prog) (f := fn_length0) (sg := sg_length0) (p := .fc 75 (.ag [.it .i64])) (sgs := [(fn_varint_Read, sg_varint_Read)]) (pgs := [(fn_section_must, sg_section_must, .fc 75 (.ag [.it .i64]))]) (Gd := fun LP gs ps => length0_g LP gs.1 ps.1) (hn := []) (h := []) (varint_Read, ()) ⟨varint_Read_ok, trivial⟩ (section_must, ()) ⟨section_must_ok, trivial⟩ (by kernel_rfl) (by kernel_rfl)

/-- (*section.reader).section -/
abbrev fn_section_ : FuncId := 30
def sg_section_ : Sig := ⟨⟨[(0, .pt 0 0)], [.va [.vs 1 (.int .u8), .it .i64]]⟩, [⟨[(0, .ag [.it .u8, .gr 1])], [.va [.vs 1 (.int .u8), .it .i64], .gs true (.int .u8)]⟩]⟩
def section__g (LP : LPT) (octet_Take : ((List Int) × Int × Int) → Option (Int × Int × Int)) (Clone_byte : (List Int) → Option (List Int)) (crc_Sum : (List Int) → Option (Int)) (cut : (Int × (List Int) × Int) → Option (((List Int) × (List Int) × Int) ⊕ Int)) (length : ((List Int) × Int) → Option ((Int × (List Int) × Int) ⊕ Int)) : ((List Int) × Int) → Option ((Int × ((List Int) × Int) × List Int) ⊕ Int) := fun (x1, x2) =>
  (cut (1, x1, x2)).bind fun x => match x with
    | .inl (x3, x4, x5) => bif decide (0 ≤ 0) && decide (0 < (x3.length : Int)) then 
        (bif decide ((Ty.at (.int .u8) x3 ((0 : Int).toNat)) = (0 : Int)) then some (.inr (3 : Int))
        else 
          ((length (x4, x5)).bind fun x => match x with
            | .inl (x7, x8, x9) => (cut (x7, x8, x9)).bind fun x => match x with
                | .inl (x11, x12, x13) => bif (decide (0 ≤ x13) && decide (x13 ≤ (x12.length : Int))) && (decide (0 ≤ x2) && decide (x2 ≤ (x13.toNat : Int))) then 
                    ((crc_Sum ((x12.take x13.toNat).drop x2.toNat)).bind fun x15 => 
                      ((cut (4, x12, x13)).bind fun x => match x with
                        | .inl (x16, x17, x18) => (octet_Take (x16, 0, 4)).bind fun (x20, x21, x22) => 
                            (bif !decide ((IntKind.u64.wrap x15) = x20) then some (.inr (5 : Int))
                            else 
                              ((Clone_byte x11).bind fun x23 => some (.inl (Ty.at (.int .u8) x3 ((0 : Int).toNat), (x17, x18), x23))))
                        | .inr x19 => some (.inr x19)))
                    else none
                | .inr x14 => some (.inr x14)
            | .inr x10 => some (.inr x10)))
        else none
    | .inr x6 => some (.inr x6)
def section_ : ((List Int) × Int) → Option ((Int × ((List Int) × Int) × List Int) ⊕ Int) := section__g LOOPx octet_Take Clone_byte crc_Sum cut length
theorem section__ok : FnPOK Go.Proofs.Try.prog fn_section_ sg_section_ (.fc 75 (.ag [.it .i64])) section_ := fnP_of (P := Go.Proofs.Try.prog) (f := fn_section_) (sg := sg_section_) (p := .fc 75 (.ag [.it .i64])) (sgs := [(fn_octet_Take, sg_octet_Take), (fn_Clone_byte, sg_Clone_byte), (fn_crc_Sum, sg_crc_Sum)]) (pgs := [(fn_cut, sg_cut, .fc 75 (.ag [.it .i64])), (fn_length, sg_length, .fc 75 (.ag [.it .i64]))]) (Gd := fun LP gs ps => section__g LP gs.1 gs.2.1 gs.2.2.1 ps.1 ps.2.1) (hn := []) (h := []) (octet_Take, Clone_byte, crc_Sum, ()) ⟨octet_Take_ok, Clone_byte_ok, crc_Sum_ok, trivial⟩ (cut, length, ()) ⟨cut_ok, length_ok, trivial⟩ (by kernel_rfl) (by kernel_rfl)

/-- (*section.reader).section -/
abbrev fn_section0 : FuncId := 30
def sg_section0 : Sig := ⟨⟨[(0, .pt 0 0)], [.va [.vs 0 (.int .u8), .it .i64]]⟩, [⟨[(0, .ag [.it .u8, .gr 1])], [.va [.vs 0 (.int .u8), .it .i64], .gs true (.int .u8)]⟩]⟩
def section0_g (LP : LPT) (octet_Take : ((List Int) × Int × Int) → Option (Int × Int × Int)) (Clone_byte : (List Int) → Option (List Int)) (crc_Sum : (List Int) → Option (Int)) (cut0 : (Int × (List Int) × Int) → Option (((List Int) × (List Int) × Int) ⊕ Int)) (length0 : ((List Int) × Int) → Option ((Int × (List Int) × Int) ⊕ Int)) : ((List Int) × Int) → Option ((Int × ((List Int) × Int) × List Int) ⊕ Int) := fun (x1, x2) =>
  (cut0 (1, x1, x2)).bind fun x => match x with
    | .inl (x3, x4, x5) => bif decide (0 ≤ 0) && decide (0 < (x3.length : Int)) then 
        (bif decide ((Ty.at (.int .u8) x3 ((0 : Int).toNat)) = (0 : Int)) then some (.inr (3 : Int))
        else 
          ((length0 (x4, x5)).bind fun x => match x with
            | .inl (x7, x8, x9) => (cut0 (x7, x8, x9)).bind fun x => match x with
                | .inl (x11, x12, x13) => bif (decide (0 ≤ x13) && decide (x13 ≤ (x12.length : Int))) && (decide (0 ≤ x2) && decide (x2 ≤ (x13.toNat : Int))) then 
                    ((crc_Sum ((x12.take x13.toNat).drop x2.toNat)).bind fun x15 => 
                      ((cut0 (4, x12, x13)).bind fun x => match x with
                        | .inl (x16, x17, x18) => (octet_Take (x16, 0, 4)).bind fun (x20, x21, x22) => 
                            (bif !decide ((IntKind.u64.wrap x15) = x20) then some (.inr (5 : Int))
                            else 
                              ((Clone_byte x11).bind fun x23 => some (.inl (Ty.at (.int .u8) x3 ((0 : Int).toNat), (x17, x18), x23))))
                        | .inr x19 => some (.inr x19)))
                    else none
                | .inr x14 => some (.inr x14)
            | .inr x10 => some (.inr x10)))
        else none
    | .inr x6 => some (.inr x6)
def section0 : ((List Int) × Int) → Option ((Int × ((List Int) × Int) × List Int) ⊕ Int) := section0_g LOOPx octet_Take Clone_byte crc_Sum cut0 length0
theorem section0_ok : FnPOK Go.Proofs.Try.prog fn_section0 sg_section0 (.fc 75 (.ag [.it .i64])) section0 := fnP_of (P := Go.Proofs.Try.prog) (f := fn_section0) (sg := sg_section0) (p := .fc 75 (.ag [.it .i64])) (sgs := [(fn_octet_Take, sg_octet_Take), (fn_Clone_byte, sg_Clone_byte), (fn_crc_Sum, sg_crc_Sum)]) (pgs := [(fn_cut0, sg_cut0, .fc 75 (.ag [.it .i64])), (fn_length0, sg_length0, .fc 75 (.ag [.it .i64]))]) (Gd := fun LP gs ps => section0_g LP gs.1 gs.2.1 gs.2.2.1 ps.1 ps.2.1) (hn := []) (h := []) (octet_Take, Clone_byte, crc_Sum, ()) ⟨octet_Take_ok, Clone_byte_ok, crc_Sum_ok, trivial⟩ (cut0, length0, ()) ⟨cut0_ok, length0_ok, trivial⟩ (by kernel_rfl) (by kernel_rfl)

/-- section.caught -/
abbrev fn_caught_ni : FuncId := 29
def sg_caught_ni : Sig := ⟨⟨[(0, .ni)], []⟩, [⟨[(0, .it .i64)], []⟩]⟩
def caught_ni_g (LP : LPT) : Unit → Option (Int) := fun _ =>
  some (0 : Int)
def caught_ni : Unit → Option (Int) := caught_ni_g LOOPx
theorem caught_ni_ok : FnOK Go.Proofs.Try.prog fn_caught_ni sg_caught_ni caught_ni := fn_of (P := Go.Proofs.Try.prog) (f := fn_caught_ni) (sg := sg_caught_ni) (sgs := []) (Gd := fun LP gs => caught_ni_g LP) (hn := []) (h := []) (()) trivial (by kernel_rfl) (by kernel_rfl)

/-- section.caught -/
abbrev fn_caught_bad : FuncId := 29
def sg_caught_bad : Sig := ⟨⟨[(0, .fc 75 (.ag [.it .i64]))], []⟩, [⟨[(0, .it .i64)], []⟩]⟩
def caught_bad_g (LP : LPT) : Int → Option (Int) := fun x1 =>
  some x1
def caught_bad : Int → Option (Int) := caught_bad_g LOOPx
theorem caught_bad_ok : FnOK Go.Proofs.Try.prog fn_caught_bad sg_caught_bad caught_bad := fn_of (P := Go.Proofs.Try.prog) (f := fn_caught_bad) (sg := sg_caught_bad) (sgs := []) (Gd := fun LP gs => caught_bad_g LP) (hn := []) (h := []) (()) trivial (by kernel_rfl) (by kernel_rfl)

/-- section.Read$1 -/
abbrev fn_Read_ni : FuncId := 28
def sg_Read_ni : Sig := ⟨⟨[(0, .pt 0 0), (1, .pt 1 0), (2, .pt 2 0), (3, .ni)], [.va [.it .u8, .gr 3], .va [.it .i64], .va [.it .i64], .gs true (.int .u8)]⟩, [⟨[], [.va [.it .u8, .gr 3], .va [.it .i64], .va [.it .i64], .gs true (.int .u8)]⟩, ⟨[], [.va [.it .u8, .sn], .va [.it .i64], .va [.it .i64], .gs true (.int .u8)]⟩]⟩
def Read_ni_g (LP : LPT) (caught_ni : Unit → Option (Int)) : (Int × Int × Int × List Int) → Option ((Int × Int × Int × List Int) ⊕ (Int × Int × Int × List Int)) := fun (x1, x2, x3, x4) =>
  (caught_ni ()).bind fun x5 => 
    (bif !decide (x5 = (0 : Int)) then some (.inr ((0, 0, x5, x4)))
    else some (.inl (x1, x2, x3, x4)))
def Read_ni : (Int × Int × Int × List Int) → Option ((Int × Int × Int × List Int) ⊕ (Int × Int × Int × List Int)) := Read_ni_g LOOPx caught_ni
theorem Read_ni_ok : DfOK Go.Proofs.Try.prog fn_Read_ni sg_Read_ni Read_ni := df_of (P := Go.Proofs.Try.prog) (f := fn_Read_ni) (sg := sg_Read_ni) (sgs := [(fn_caught_ni, sg_caught_ni)]) (Gd := fun LP gs => Read_ni_g LP gs.1) (hn := []) (h := []) (caught_ni, ()) ⟨caught_ni_ok, trivial⟩ (by kernel_rfl) (by kernel_rfl)

/-- section.Read$1 -/
abbrev fn_Read_bad : FuncId := 28
def sg_Read_bad : Sig := ⟨⟨[(0, .pt 0 0), (1, .pt 1 0), (2, .pt 2 0), (3, .fc 75 (.ag [.it .i64]))], [.va [.it .u8, .sn], .va [.it .i64], .va [.it .i64]]⟩, [⟨[], [.va [.it .u8, .sn], .va [.it .i64], .va [.it .i64]]⟩]⟩
def Read_bad_g (LP : LPT) (caught_bad : Int → Option (Int)) : (Int × Int × Int × Int) → Option (Int × Int × Int) := fun (x1, x2, x3, x4) =>
  (caught_bad x1).bind fun x5 => 
    (bif !decide (x5 = (0 : Int)) then some (0, 0, x5)
    else some (x2, x3, x4))
def Read_bad : (Int × Int × Int × Int) → Option (Int × Int × Int) := Read_bad_g LOOPx caught_bad
theorem Read_bad_ok : DfOK Go.Proofs.Try.prog fn_Read_bad sg_Read_bad Read_bad := df_of (P := Go.Proofs.Try.prog) (f := fn_Read_bad) (sg := sg_Read_bad) (sgs := [(fn_caught_bad, sg_caught_bad)]) (Gd := fun LP gs => Read_bad_g LP gs.1) (hn := []) (h := []) (caught_bad, ()) ⟨caught_bad_ok, trivial⟩ (by kernel_rfl) (by kernel_rfl)

/-- section.Read -/
abbrev fn_section_Read : FuncId := 11
def sg_section_Read : Sig := ⟨⟨[(0, .vs 1 (.int .u8)), (1, .it .i64)], []⟩, [⟨[(0, .ag [.it .u8, .gr 0]), (1, .it .i64), (2, .it .i64)], [.gs true (.int .u8)]⟩]⟩
def section_Read_g (LP : LPT) (section_ : ((List Int) × Int) → Option ((Int × ((List Int) × Int) × List Int) ⊕ Int)) (Read_ni : (Int × Int × Int × List Int) → Option ((Int × Int × Int × List Int) ⊕ (Int × Int × Int × List Int))) (Read_bad : (Int × Int × Int × Int) → Option (Int × Int × Int)) : ((List Int) × Int) → Option ((Int × Int × Int) × List Int) := fun (x1, x2) =>
  bif !(decide (x2 < (0 : Int))) then 
      (bif decide ((x1.length : Int) < x2) then some ((0, 0, 1), [])
      else 
        ((section_ (x1, x2)).bind fun x => match x with
          | .inl (x3, (x4, x5), x6) => (Read_ni (x3, x5, 0, x6)).bind fun x => match x with
              | .inl (x8, x9, x10, x11) => some ((x8, x9, x10), x11)
              | .inr ((x12, x13, x14, x15)) => some ((x12, x13, x14), [])
          | .inr x7 => (Read_bad (x7, 0, 0, 0)).bind fun (x16, x17, x18) => some ((x16, x17, x18), [])))
  else some ((0, 0, 1), [])
def section_Read : ((List Int) × Int) → Option ((Int × Int × Int) × List Int) := section_Read_g LOOPx section_ Read_ni Read_bad
theorem section_Read_ok : FnOK Go.Proofs.Try.prog fn_section_Read sg_section_Read section_Read := fnD_of (P := Go.Proofs.Try.prog) (f := fn_section_Read) (sg := sg_section_Read) (sgs := []) (pgs := [(fn_section_, sg_section_, .fc 75 (.ag [.it .i64]))]) (dgs := [(fn_Read_ni, sg_Read_ni), (fn_Read_bad, sg_Read_bad)]) (Gd := fun LP gs ps ds => section_Read_g LP ps.1 ds.1 ds.2.1) (hn := []) (h := []) (()) trivial (section_, ()) ⟨section__ok, trivial⟩ (Read_ni, Read_bad, ()) ⟨Read_ni_ok, Read_bad_ok, trivial⟩ (by kernel_rfl) (by kernel_rfl)

/-- section.Read -/
abbrev fn_section_Read0 : FuncId := 11
def sg_section_Read0 : Sig := ⟨⟨[(0, .vs 0 (.int .u8)), (1, .it .i64)], []⟩, [⟨[(0, .ag [.it .u8, .gr 0]), (1, .it .i64), (2, .it .i64)], [.gs true (.int .u8)]⟩]⟩
def section_Read0_g (LP : LPT) (section0 : ((List Int) × Int) → Option ((Int × ((List Int) × Int) × List Int) ⊕ Int)) (Read_ni : (Int × Int × Int × List Int) → Option ((Int × Int × Int × List Int) ⊕ (Int × Int × Int × List Int))) (Read_bad : (Int × Int × Int × Int) → Option (Int × Int × Int)) : ((List Int) × Int) → Option ((Int × Int × Int) × List Int) := fun (x1, x2) =>
  bif !(decide (x2 < (0 : Int))) then 
      (bif decide ((x1.length : Int) < x2) then some ((0, 0, 1), [])
      else 
        ((section0 (x1, x2)).bind fun x => match x with
          | .inl (x3, (x4, x5), x6) => (Read_ni (x3, x5, 0, x6)).bind fun x => match x with
              | .inl (x8, x9, x10, x11) => some ((x8, x9, x10), x11)
              | .inr ((x12, x13, x14, x15)) => some ((x12, x13, x14), [])
          | .inr x7 => (Read_bad (x7, 0, 0, 0)).bind fun (x16, x17, x18) => some ((x16, x17, x18), [])))
  else some ((0, 0, 1), [])
def section_Read0 : ((List Int) × Int) → Option ((Int × Int × Int) × List Int) := section_Read0_g LOOPx section0 Read_ni Read_bad
theorem section_Read0_ok : FnOK Go.Proofs.Try.prog fn_section_Read0 sg_section_Read0 section_Read0 := fnD_of (P := Go.Proofs.Try.prog) (f := fn_section_Read0) (sg := sg_section_Read0) (sgs := []) (pgs := [(fn_section0, sg_section0, .fc 75 (.ag [.it .i64]))]) (dgs := [(fn_Read_ni, sg_Read_ni), (fn_Read_bad, sg_Read_bad)]) (Gd := fun LP gs ps ds => section_Read0_g LP ps.1 ds.1 ds.2.1) (hn := []) (h := []) (()) trivial (section0, ()) ⟨section0_ok, trivial⟩ (Read_ni, Read_bad, ()) ⟨Read_ni_ok, Read_bad_ok, trivial⟩ (by kernel_rfl) (by kernel_rfl)

/-- section.List$1 -/
abbrev fn_List_ni : FuncId := 34
def sg_List_ni : Sig := ⟨⟨[(0, .pt 0 0), (1, .pt 1 0), (2, .ni)], [.va [.gr 2], .va [.it .i64], .gs true (.pr (.int .u8) (.sl (.int .u8)))]⟩, [⟨[], [.va [.gr 2], .va [.it .i64], .gs true (.pr (.int .u8) (.sl (.int .u8)))]⟩, ⟨[], [.va [.sn], .va [.it .i64], .gs true (.pr (.int .u8) (.sl (.int .u8)))]⟩]⟩
def List_ni_g (LP : LPT) (caught_ni : Unit → Option (Int)) : (Int × List (Int × List Int)) → Option ((Int × List (Int × List Int)) ⊕ (Int × List (Int × List Int))) := fun (x1, x2) =>
  (caught_ni ()).bind fun x3 => 
    (bif !decide (x3 = (0 : Int)) then some (.inr ((x3, x2)))
    else some (.inl (x1, x2)))
def List_ni : (Int × List (Int × List Int)) → Option ((Int × List (Int × List Int)) ⊕ (Int × List (Int × List Int))) := List_ni_g LOOPx caught_ni
theorem List_ni_ok : DfOK Go.Proofs.Try.prog fn_List_ni sg_List_ni List_ni := df_of (P := Go.Proofs.Try.prog) (f := fn_List_ni) (sg := sg_List_ni) (sgs := [(fn_caught_ni, sg_caught_ni)]) (Gd := fun LP gs => List_ni_g LP gs.1) (hn := []) (h := []) (caught_ni, ()) ⟨caught_ni_ok, trivial⟩ (by kernel_rfl) (by kernel_rfl)

/-- section.List$1 -/
abbrev fn_List_nil : FuncId := 34
def sg_List_nil : Sig := ⟨⟨[(0, .pt 0 0), (1, .pt 1 0), (2, .ni)], [.va [.sn], .va [.it .i64]]⟩, [⟨[], [.va [.sn], .va [.it .i64]]⟩]⟩
def List_nil_g (LP : LPT) (caught_ni : Unit → Option (Int)) : Int → Option (Int) := fun x1 =>
  (caught_ni ()).bind fun x2 => 
    (bif !decide (x2 = (0 : Int)) then some x2
    else some x1)
def List_nil : Int → Option (Int) := List_nil_g LOOPx caught_ni
theorem List_nil_ok : DfOK Go.Proofs.Try.prog fn_List_nil sg_List_nil List_nil := df_of (P := Go.Proofs.Try.prog) (f := fn_List_nil) (sg := sg_List_nil) (sgs := [(fn_caught_ni, sg_caught_ni)]) (Gd := fun LP gs => List_nil_g LP gs.1) (hn := []) (h := []) (caught_ni, ()) ⟨caught_ni_ok, trivial⟩ (by kernel_rfl) (by kernel_rfl)

/-- section.List$1 -/
abbrev fn_List_bad : FuncId := 34
def sg_List_bad : Sig := ⟨⟨[(0, .pt 0 0), (1, .pt 1 0), (2, .fc 75 (.ag [.it .i64]))], [.va [.gr 2], .va [.it .i64], .gs true (.pr (.int .u8) (.sl (.int .u8)))]⟩, [⟨[], [.va [.gr 2], .va [.it .i64], .gs true (.pr (.int .u8) (.sl (.int .u8)))]⟩, ⟨[], [.va [.sn], .va [.it .i64], .gs true (.pr (.int .u8) (.sl (.int .u8)))]⟩]⟩
def List_bad_g (LP : LPT) (caught_bad : Int → Option (Int)) : (Int × Int × List (Int × List Int)) → Option ((Int × List (Int × List Int)) ⊕ (Int × List (Int × List Int))) := fun (x1, x2, x3) =>
  (caught_bad x1).bind fun x4 => 
    (bif !decide (x4 = (0 : Int)) then some (.inr ((x4, x3)))
    else some (.inl (x2, x3)))
def List_bad : (Int × Int × List (Int × List Int)) → Option ((Int × List (Int × List Int)) ⊕ (Int × List (Int × List Int))) := List_bad_g LOOPx caught_bad
theorem List_bad_ok : DfOK Go.Proofs.Try.prog fn_List_bad sg_List_bad List_bad := df_of (P := Go.Proofs.Try.prog) (f := fn_List_bad) (sg := sg_List_bad) (sgs := [(fn_caught_bad, sg_caught_bad)]) (Gd := fun LP gs => List_bad_g LP gs.1) (hn := []) (h := []) (caught_bad, ()) ⟨caught_bad_ok, trivial⟩ (by kernel_rfl) (by kernel_rfl)

/-- section.List -/
abbrev fn_section_List : FuncId := 13
def sg_section_List : Sig := ⟨⟨[(0, .vs 1 (.int .u8))], []⟩, [⟨[(0, .gr 0), (1, .it .i64)], [.gs true (.pr (.int .u8) (.sl (.int .u8)))]⟩]⟩
def section_List_g (LP : LPT) (section_ : ((List Int) × Int) → Option ((Int × ((List Int) × Int) × List Int) ⊕ Int)) (List_ni : (Int × List (Int × List Int)) → Option ((Int × List (Int × List Int)) ⊕ (Int × List (Int × List Int)))) (List_nil : Int → Option (Int)) (List_bad : (Int × Int × List (Int × List Int)) → Option ((Int × List (Int × List Int)) ⊕ (Int × List (Int × List Int)))) : (List Int) → Option (Int × List (Int × List Int)) := fun x1 =>
  LP (((List Int) × Int) × Int × ((List Int) × Int) × List (Int × List Int)) (Int × List (Int × List Int)) (fun ((x2, x3), x4, (x5, x6), x7) =>
    bif decide (x6 < (x2.length : Int)) then 
        ((section_ (x5, x6)).bind fun x => match x with
          | .inl (x8, (x9, x10), x11) => bif decide (x8 ≤ x3) then 
                (inR ((List_nil (3 : Int)).bind fun x13 => some (x13, [])))
            else 
              (bif decide ((x7.length + ([(x8, x11)]).length) * 32 ≤ 140737488355328) then some (.inl ((x2, x8), x4, (x9, x10), x7 ++ ([(x8, x11)])))
                else none)
          | .inr x12 => inR ((List_bad (x12, x4, x7)).bind fun x => match x with
                | .inl (x14, x15) => some (x14, x15)
                | .inr ((x16, x17)) => some (x16, [])))
    else 
      (inR ((List_ni (0, x7)).bind fun x => match x with
          | .inl (x18, x19) => some (x18, x19)
          | .inr ((x20, x21)) => some (x20, []))))
    ((x1, 0), 0, (x1, 0), [])
def section_List : (List Int) → Option (Int × List (Int × List Int)) := section_List_g LOOPx section_ List_ni List_nil List_bad
theorem section_List_ok : FnOK Go.Proofs.Try.prog fn_section_List sg_section_List section_List := fnD_of (P := Go.Proofs.Try.prog) (f := fn_section_List) (sg := sg_section_List) (sgs := []) (pgs := [(fn_section_, sg_section_, .fc 75 (.ag [.it .i64]))]) (dgs := [(fn_List_ni, sg_List_ni), (fn_List_nil, sg_List_nil), (fn_List_bad, sg_List_bad)]) (Gd := fun LP gs ps ds => section_List_g LP ps.1 ds.1 ds.2.1 ds.2.2.1) (hn := []) (h := [(9, false, ⟨[(0, .vs 1 (.int .u8)), (2, .pt 0 0), (3, .pt 1 0), (4, .pt 2 0), (5, .it .u8)], [.va [.gr 3], .va [.it .i64], .va [.vs 1 (.int .u8), .it .i64], .gs true (.pr (.int .u8) (.sl (.int .u8)))]⟩)]) (()) trivial (section_, ()) ⟨section__ok, trivial⟩ (List_ni, List_nil, List_bad, ()) ⟨List_ni_ok, List_nil_ok, List_bad_ok, trivial⟩ (by kernel_rfl) (by kernel_rfl)

/-- section.List -/
abbrev fn_section_List0 : FuncId := 13
def sg_section_List0 : Sig := ⟨⟨[(0, .vs 0 (.int .u8))], []⟩, [⟨[(0, .gr 0), (1, .it .i64)], [.gs true (.pr (.int .u8) (.sl (.int .u8)))]⟩]⟩
def section_List0_g (LP : LPT) (section0 : ((List Int) × Int) → Option ((Int × ((List Int) × Int) × List Int) ⊕ Int)) (List_ni : (Int × List (Int × List Int)) → Option ((Int × List (Int × List Int)) ⊕ (Int × List (Int × List Int)))) (List_nil : Int → Option (Int)) (List_bad : (Int × Int × List (Int × List Int)) → Option ((Int × List (Int × List Int)) ⊕ (Int × List (Int × List Int)))) : (List Int) → Option (Int × List (Int × List Int)) := fun x1 =>
  LP (((List Int) × Int) × Int × ((List Int) × Int) × List (Int × List Int)) (Int × List (Int × List Int)) (fun ((x2, x3), x4, (x5, x6), x7) =>
    bif decide (x6 < (x2.length : Int)) then 
        ((section0 (x5, x6)).bind fun x => match x with
          | .inl (x8, (x9, x10), x11) => bif decide (x8 ≤ x3) then 
                (inR ((List_nil (3 : Int)).bind fun x13 => some (x13, [])))
            else 
              (bif decide ((x7.length + ([(x8, x11)]).length) * 32 ≤ 140737488355328) then some (.inl ((x2, x8), x4, (x9, x10), x7 ++ ([(x8, x11)])))
                else none)
          | .inr x12 => inR ((List_bad (x12, x4, x7)).bind fun x => match x with
                | .inl (x14, x15) => some (x14, x15)
                | .inr ((x16, x17)) => some (x16, [])))
    else 
      (inR ((List_ni (0, x7)).bind fun x => match x with
          | .inl (x18, x19) => some (x18, x19)
          | .inr ((x20, x21)) => some (x20, []))))
    ((x1, 0), 0, (x1, 0), [])
def section_List0 : (List Int) → Option (Int × List (Int × List Int)) := section_List0_g LOOPx section0 List_ni List_nil List_bad
theorem section_List0_ok : FnOK Go.Proofs.Try.prog fn_section_List0 sg_section_List0 section_List0 := fnD_of (P := Go.Proofs.Try.prog) (f := fn_section_List0) (sg := sg_section_List0) (sgs := []) (pgs := [(fn_section0, sg_section0, .fc 75 (.ag [.it .i64]))]) (dgs := [(fn_List_ni, sg_List_ni), (fn_List_nil, sg_List_nil), (fn_List_bad, sg_List_bad)]) (Gd := fun LP gs ps ds => section_List0_g LP ps.1 ds.1 ds.2.1 ds.2.2.1) (hn := []) (h := [(9, false, ⟨[(0, .vs 0 (.int .u8)), (2, .pt 0 0), (3, .pt 1 0), (4, .pt 2 0), (5, .it .u8)], [.va [.gr 3], .va [.it .i64], .va [.vs 0 (.int .u8), .it .i64], .gs true (.pr (.int .u8) (.sl (.int .u8)))]⟩)]) (()) trivial (section0, ()) ⟨section0_ok, trivial⟩ (List_ni, List_nil, List_bad, ()) ⟨List_ni_ok, List_nil_ok, List_bad_ok, trivial⟩ (by kernel_rfl) (by kernel_rfl)

/-- section.Find$1 -/
abbrev fn_Find_tag : FuncId := 36
def sg_Find_tag : Sig := ⟨⟨[(0, .ag [.it .u8, .vs 0 (.int .u8)]), (1, .pe [.it .u8] 0)], []⟩, [⟨[(0, .bo)], []⟩]⟩
def Find_tag_g (LP : LPT) : ((Int × List Int) × Int) → Option (Bool) := fun ((x1, x2), x3) =>
  some (decide (x1 = x3))
def Find_tag : ((Int × List Int) × Int) → Option (Bool) := Find_tag_g LOOPx
theorem Find_tag_ok : FnOK Go.Proofs.Try.prog fn_Find_tag sg_Find_tag Find_tag := fn_of (P := Go.Proofs.Try.prog) (f := fn_Find_tag) (sg := sg_Find_tag) (sgs := []) (Gd := fun LP gs => Find_tag_g LP) (hn := []) (h := []) (()) trivial (by kernel_rfl) (by kernel_rfl)

/-- slices.IndexFunc[[]api.Section,api.Section] -/
abbrev fn_IndexFunc_tag : FuncId := 35
def sg_IndexFunc_tag : Sig := ⟨⟨[(0, .vs 0 (.pr (.int .u8) (.sl (.int .u8)))), (1, .fn 36 [] [.pe [.it .u8] 0])], []⟩, [⟨[(0, .it .i64)], []⟩]⟩
def IndexFunc_tag_g (LP : LPT) (Find_tag : ((Int × List Int) × Int) → Option (Bool)) : ((List (Int × List Int)) × Int) → Option (Int) := fun (x1, x2) =>
  LP ((List (Int × List Int)) × Int × Int × Int) (Int) (fun (x3, x4, x5, x6) =>
    bif decide (x6 < x5) then 
        (bif decide (0 ≤ x6) && decide (x6 < (x3.length : Int)) then 
          ((Find_tag (((Ty.at (.pr (.int .u8) (.sl (.int .u8))) x3 x6.toNat).1, (Ty.at (.pr (.int .u8) (.sl (.int .u8))) x3 x6.toNat).2), x4)).bind fun x7 => 
            (bif x7 then some (.inr x6)
            else some (.inl (x3, x4, x5, IntKind.i64.wrap (x6 + (1 : Int))))))
          else none)
    else some (.inr (-1)))
    (x1, x2, (x1.length : Int), 0)
def IndexFunc_tag : ((List (Int × List Int)) × Int) → Option (Int) := IndexFunc_tag_g LOOPx Find_tag
theorem IndexFunc_tag_ok : FnOK Go.Proofs.Try.prog fn_IndexFunc_tag sg_IndexFunc_tag IndexFunc_tag := fn_of (P := Go.Proofs.Try.prog) (f := fn_IndexFunc_tag) (sg := sg_IndexFunc_tag) (sgs := [(fn_Find_tag, sg_Find_tag)]) (Gd := fun LP gs => IndexFunc_tag_g LP gs.1) (hn := []) (h := [(6, false, ⟨[(0, .vs 0 (.pr (.int .u8) (.sl (.int .u8)))), (1, .fn 36 [] [.pe [.it .u8] 0]), (7, .it .i64), (8, .it .i64)], []⟩)]) (Find_tag, ()) ⟨Find_tag_ok, trivial⟩ (by kernel_rfl) (by kernel_rfl)

/-- section.Find -/
abbrev fn_section_Find : FuncId := 19
def sg_section_Find : Sig := ⟨⟨[(0, .vs 0 (.pr (.int .u8) (.sl (.int .u8)))), (1, .it .u8)], []⟩, [⟨[(0, .vs 0 (.int .u8)), (1, .bo)], []⟩]⟩
def section_Find_g (LP : LPT) (IndexFunc_tag : ((List (Int × List Int)) × Int) → Option (Int)) : ((List (Int × List Int)) × Int) → Option ((List Int) × Bool) := fun (x1, x2) =>
  (IndexFunc_tag (x1, x2)).bind fun x3 => 
    (bif decide (x3 < (0 : Int)) then some ([], false)
    else 
      (bif decide (0 ≤ x3) && decide (x3 < (x1.length : Int)) then some ((Ty.at (.pr (.int .u8) (.sl (.int .u8))) x1 x3.toNat).2, true)
        else none))
def section_Find : ((List (Int × List Int)) × Int) → Option ((List Int) × Bool) := section_Find_g LOOPx IndexFunc_tag
theorem section_Find_ok : FnOK Go.Proofs.Try.prog fn_section_Find sg_section_Find section_Find := fn_of (P := Go.Proofs.Try.prog) (f := fn_section_Find) (sg := sg_section_Find) (sgs := [(fn_IndexFunc_tag, sg_IndexFunc_tag)]) (Gd := fun LP gs => section_Find_g LP gs.1) (hn := []) (h := []) (IndexFunc_tag, ()) ⟨IndexFunc_tag_ok, trivial⟩ (by kernel_rfl) (by kernel_rfl)

/-- torporlaw04.alive -/
abbrev fn_torporlaw04_alive : FuncId := 8
def sg_torporlaw04_alive : Sig := ⟨⟨[], []⟩, [⟨[(0, .bo)], []⟩]⟩
def torporlaw04_alive_g (LP : LPT) (section_Append : ((List Int) × Int × List Int) → Option (Int × List Int)) (section_All : (List (Int × List Int)) → Option (Int × List Int)) (section_Read : ((List Int) × Int) → Option ((Int × Int × Int) × List Int)) (section_Read0 : ((List Int) × Int) → Option ((Int × Int × Int) × List Int)) (section_List : (List Int) → Option (Int × List (Int × List Int))) (section_List0 : (List Int) → Option (Int × List (Int × List Int))) (section_Find : ((List (Int × List Int)) × Int) → Option ((List Int) × Bool)) : Unit → Option (Bool) := fun _ =>
  bif Nat.blt 0 ([120]).length then 
    (bif Nat.blt 0 ([103, 111]).length then 
      ((section_Append ([120], 7, [103, 111])).bind fun (x1, x2) => 
        (bif !decide ((x2.length : Int) = (9 : Int)) then some false
        else 
          ((section_Read (x2, 1)).bind fun ((x3, x4, x5), x6) => 
            (bif decide (0 ≤ 1) && decide (1 ≤ (x2.length : Int)) then 
              (bif (decide (((1 : Int).toNat) + (x2.length - ((1 : Int).toNat)) ≤ x2.length) && true) && true then 
                ((section_List0 ((x2.drop ((1 : Int).toNat)).take (x2.length - ((1 : Int).toNat)))).bind fun (x7, x8) => 
                  (bif decide (0 ≤ 1) && decide (1 ≤ (x2.length : Int)) then 
                    (bif decide (0 ≤ 1) && decide (1 ≤ (x2.length : Int)) then 
                      (bif decide (((1 : Int).toNat) + (x2.length - ((1 : Int).toNat)) ≤ x2.length) && decide ((([] : List Int).length + ((x2.drop ((1 : Int).toNat)).take (x2.length - ((1 : Int).toNat))).length) * 1 ≤ 140737488355328) then 
                        (bif decide (((1 : Int).toNat) + (x2.length - ((1 : Int).toNat)) ≤ x2.length) && decide (((([] : List Int) ++ ((x2.drop ((1 : Int).toNat)).take (x2.length - ((1 : Int).toNat)))).length + ((x2.drop ((1 : Int).toNat)).take (x2.length - ((1 : Int).toNat))).length) * 1 ≤ 140737488355328) then 
                          ((section_List ((([] : List Int) ++ ((x2.drop ((1 : Int).toNat)).take (x2.length - ((1 : Int).toNat)))) ++ ((x2.drop ((1 : Int).toNat)).take (x2.length - ((1 : Int).toNat))))).bind fun (x9, x10) => 
                            ((section_All ([(0, [])])).bind fun (x11, x12) => 
                              (bif (decide (0 ≤ IntKind.i64.wrap ((x2.length : Int) - (1 : Int))) && decide (IntKind.i64.wrap ((x2.length : Int) - (1 : Int)) ≤ (x2.length : Int))) && true then 
                                (bif (decide (0 + (((IntKind.i64.wrap ((x2.length : Int) - (1 : Int))).toNat) - 0) ≤ x2.length) && true) && true then 
                                  ((section_Read0 ((x2.drop 0).take (((IntKind.i64.wrap ((x2.length : Int) - (1 : Int))).toNat) - 0), 1)).bind fun ((x13, x14, x15), x16) => 
                                    ((section_Find (x8, 7)).bind fun (x17, x18) => 
                                      ((section_All ([(x3, x6)])).bind fun (x19, x20) => 
                                        (bif decide (x1 = (0 : Int)) then 
                                            (bif decide (x5 = (0 : Int)) then 
                                                (bif decide (x7 = (0 : Int)) then 
                                                    (bif decide (x9 = (3 : Int)) then 
                                                        (bif decide (x11 = (3 : Int)) then 
                                                            (bif decide (x15 = (2 : Int)) then 
                                                                (bif decide (x19 = (0 : Int)) then 
                                                                    (bif decide ((x2.length : Int) = (9 : Int)) then 
                                                                        (bif decide (0 ≤ 1) && decide (1 < (x2.length : Int)) then 
                                                                          (bif decide ((1 : Int).toNat < x2.length) then 
                                                                            (bif decide ((Ty.at (.int .u8) x2 ((1 : Int).toNat)) = (7 : Int)) then 
                                                                                (bif decide (0 ≤ 2) && decide (2 < (x2.length : Int)) then 
                                                                                  (bif decide ((2 : Int).toNat < x2.length) then 
                                                                                    (bif decide ((Ty.at (.int .u8) x2 ((2 : Int).toNat)) = (2 : Int)) then 
                                                                                        (bif decide (x3 = (7 : Int)) then 
                                                                                            (bif (bst x6).toList == (⟨#[103, 111]⟩ : ByteArray).toList then 
                                                                                                (bif decide (x4 = (9 : Int)) then 
                                                                                                    (bif decide ((x8.length : Int) = (1 : Int)) then 
                                                                                                        (bif x18 then 
                                                                                                            (bif (bst x17).toList == (⟨#[103, 111]⟩ : ByteArray).toList then 
                                                                                                                (bif decide (0 ≤ 1) && decide (1 ≤ (x2.length : Int)) then 
                                                                                                                  (bif decide (((1 : Int).toNat) + (x2.length - ((1 : Int).toNat)) ≤ x2.length) then some ((bst x20).toList == (bst ((x2.drop ((1 : Int).toNat)).take (x2.length - ((1 : Int).toNat)))).toList)
                                                                                                                    else none)
                                                                                                                  else none)
                                                                                                            else some false)
                                                                                                        else some false)
                                                                                                    else some false)
                                                                                                else some false)
                                                                                            else some false)
                                                                                        else some false)
                                                                                    else some false)
                                                                                    else none)
                                                                                  else none)
                                                                            else some false)
                                                                            else none)
                                                                          else none)
                                                                    else some false)
                                                                else some false)
                                                            else some false)
                                                        else some false)
                                                    else some false)
                                                else some false)
                                            else some false)
                                        else some false))))
                                  else none)
                                else none)))
                          else none)
                        else none)
                      else none)
                    else none))
                else none)
              else none))))
      else none)
    else none
def torporlaw04_alive : Unit → Option (Bool) := torporlaw04_alive_g LOOPx section_Append section_All section_Read section_Read0 section_List section_List0 section_Find
theorem torporlaw04_alive_ok : FnOK Go.Proofs.Try.prog fn_torporlaw04_alive sg_torporlaw04_alive torporlaw04_alive := fn_of (P := Go.Proofs.Try.prog) (f := fn_torporlaw04_alive) (sg := sg_torporlaw04_alive) (sgs := [(fn_section_Append, sg_section_Append), (fn_section_All, sg_section_All), (fn_section_Read, sg_section_Read), (fn_section_Read0, sg_section_Read0), (fn_section_List, sg_section_List), (fn_section_List0, sg_section_List0), (fn_section_Find, sg_section_Find)]) (Gd := fun LP gs => torporlaw04_alive_g LP gs.1 gs.2.1 gs.2.2.1 gs.2.2.2.1 gs.2.2.2.2.1 gs.2.2.2.2.2.1 gs.2.2.2.2.2.2.1) (hn := [(56, .pr (.int .u8) (.sl (.int .u8)))]) (h := []) (section_Append, section_All, section_Read, section_Read0, section_List, section_List0, section_Find, ()) ⟨section_Append_ok, section_All_ok, section_Read_ok, section_Read0_ok, section_List_ok, section_List0_ok, section_Find_ok, trivial⟩ (by kernel_rfl) (by kernel_rfl)

/-- torporlaw04.SectionAnswers -/
abbrev fn_torporlaw04_SectionAnswers : FuncId := 3
def sg_torporlaw04_SectionAnswers : Sig := ⟨⟨[(0, .vs 0 (.int .u8)), (1, .ag [.it .u8, .vs 0 (.int .u8)])], []⟩, [⟨[(0, .bo)], []⟩]⟩
def torporlaw04_SectionAnswers_g (LP : LPT) (torporref04_Append : ((List Int) × Int × List Int) → Option (Int × List Int)) (section_Append : ((List Int) × Int × List Int) → Option (Int × List Int)) (torporlaw04_alive : Unit → Option (Bool)) : ((List Int) × Int × List Int) → Option (Bool) := fun (x1, x2, x3) =>
  (torporlaw04_alive ()).bind fun x4 => 
    (bif !x4 then some false
    else 
      (bif !(decide ((1000 : Int) < (x1.length : Int))) then 
          (bif decide ((1000 : Int) < (x3.length : Int)) then some true
          else 
            ((section_Append (x1, x2, x3)).bind fun (x5, x6) => 
              ((torporref04_Append (x1, x2, x3)).bind fun (x7, x8) => 
                (bif (bst x6).toList == (bst x8).toList then some (decide (x5 = x7))
                else some false))))
      else some true))
def torporlaw04_SectionAnswers : ((List Int) × Int × List Int) → Option (Bool) := torporlaw04_SectionAnswers_g LOOPx torporref04_Append section_Append torporlaw04_alive
theorem torporlaw04_SectionAnswers_ok : FnOK Go.Proofs.Try.prog fn_torporlaw04_SectionAnswers sg_torporlaw04_SectionAnswers torporlaw04_SectionAnswers := fn_of (P := Go.Proofs.Try.prog) (f := fn_torporlaw04_SectionAnswers) (sg := sg_torporlaw04_SectionAnswers) (sgs := [(fn_torporref04_Append, sg_torporref04_Append), (fn_section_Append, sg_section_Append), (fn_torporlaw04_alive, sg_torporlaw04_alive)]) (Gd := fun LP gs => torporlaw04_SectionAnswers_g LP gs.1 gs.2.1 gs.2.2.1) (hn := []) (h := []) (torporref04_Append, section_Append, torporlaw04_alive, ()) ⟨torporref04_Append_ok, section_Append_ok, torporlaw04_alive_ok, trivial⟩ (by kernel_rfl) (by kernel_rfl)

/-- torporlaw04.SectionReads -/
abbrev fn_torporlaw04_SectionReads : FuncId := 4
def sg_torporlaw04_SectionReads : Sig := ⟨⟨[(0, .vs 1 (.int .u8)), (1, .it .i64)], []⟩, [⟨[(0, .bo)], []⟩]⟩
def torporlaw04_SectionReads_g (LP : LPT) (torporref04_Read : ((List Int) × Int) → Option ((Int × Int × Int) × List Int)) (torporref04_List : (List Int) → Option (Int × List (Int × List Int))) (torporref04_Same : ((List (Int × List Int)) × List (Int × List Int)) → Option (Bool)) (section_Read : ((List Int) × Int) → Option ((Int × Int × Int) × List Int)) (section_List : (List Int) → Option (Int × List (Int × List Int))) (torporlaw04_alive : Unit → Option (Bool)) : ((List Int) × Int) → Option (Bool) := fun (x1, x2) =>
  (torporlaw04_alive ()).bind fun x3 => 
    (bif !x3 then some false
    else 
      (bif decide ((2000 : Int) < (x1.length : Int)) then some true
      else 
        ((section_Read (x1, x2)).bind fun ((x4, x5, x6), x7) => 
          ((torporref04_Read (x1, x2)).bind fun ((x8, x9, x10), x11) => 
            ((section_List x1).bind fun (x12, x13) => 
              ((torporref04_List x1).bind fun (x14, x15) => 
                (bif decide (x4 = x8) then 
                    (bif (bst x7).toList == (bst x11).toList then 
                        (bif decide (x5 = x9) then 
                            (bif decide (x6 = x10) then 
                                ((torporref04_Same (x13, x15)).bind fun x16 => 
                                  (bif x16 then some (decide (x12 = x14))
                                  else some false))
                            else some false)
                        else some false)
                    else some false)
                else some false)))))))
def torporlaw04_SectionReads : ((List Int) × Int) → Option (Bool) := torporlaw04_SectionReads_g LOOPx torporref04_Read torporref04_List torporref04_Same section_Read section_List torporlaw04_alive
theorem torporlaw04_SectionReads_ok : FnOK Go.Proofs.Try.prog fn_torporlaw04_SectionReads sg_torporlaw04_SectionReads torporlaw04_SectionReads := fn_of (P := Go.Proofs.Try.prog) (f := fn_torporlaw04_SectionReads) (sg := sg_torporlaw04_SectionReads) (sgs := [(fn_torporref04_Read, sg_torporref04_Read), (fn_torporref04_List, sg_torporref04_List), (fn_torporref04_Same, sg_torporref04_Same), (fn_section_Read, sg_section_Read), (fn_section_List, sg_section_List), (fn_torporlaw04_alive, sg_torporlaw04_alive)]) (Gd := fun LP gs => torporlaw04_SectionReads_g LP gs.1 gs.2.1 gs.2.2.1 gs.2.2.2.1 gs.2.2.2.2.1 gs.2.2.2.2.2.1) (hn := []) (h := []) (torporref04_Read, torporref04_List, torporref04_Same, section_Read, section_List, torporlaw04_alive, ()) ⟨torporref04_Read_ok, torporref04_List_ok, torporref04_Same_ok, section_Read_ok, section_List_ok, torporlaw04_alive_ok, trivial⟩ (by kernel_rfl) (by kernel_rfl)

/-- torporlaw04.SectionLists -/
abbrev fn_torporlaw04_SectionLists : FuncId := 5
def sg_torporlaw04_SectionLists : Sig := ⟨⟨[(0, .vs 0 (.pr (.int .u8) (.sl (.int .u8)))), (1, .it .u8)], []⟩, [⟨[(0, .bo)], []⟩]⟩
def torporlaw04_SectionLists_g (LP : LPT) (torporref04_All : (List (Int × List Int)) → Option (Int × List Int)) (torporref04_Great : (List (Int × List Int)) → Option (Bool)) (section_All : (List (Int × List Int)) → Option (Int × List Int)) (section_Find : ((List (Int × List Int)) × Int) → Option ((List Int) × Bool)) (torporlaw04_alive : Unit → Option (Bool)) : ((List (Int × List Int)) × Int) → Option (Bool) := fun (x1, x2) =>
  (torporlaw04_alive ()).bind fun x3 => 
    (bif !x3 then some false
    else 
      ((torporref04_Great x1).bind fun x4 => 
        (bif x4 then some true
        else 
          ((section_All x1).bind fun (x5, x6) => 
            ((torporref04_All x1).bind fun (x7, x8) => 
              (bif !(!((bst x6).toList == (bst x8).toList)) then 
                  (bif !decide (x5 = x7) then some false
                  else 
                    ((section_Find (x1, x2)).bind fun (x9, x10) => 
                      (LP ((List (Int × List Int)) × Int × (List Int) × Bool × Int) (Bool) (fun (x11, x12, x13, x14, x15) =>
                        bif decide (x15 < (x11.length : Int)) then 
                            (bif decide (0 ≤ x15) && decide (x15 < (x11.length : Int)) then 
                              (bif decide (((Ty.at (.pr (.int .u8) (.sl (.int .u8))) x11 x15.toNat).1) = x12) then 
                                  (bif x14 then 
                                      (bif decide (0 ≤ x15) && decide (x15 < (x11.length : Int)) then some (.inr ((bst x13).toList == (bst ((Ty.at (.pr (.int .u8) (.sl (.int .u8))) x11 x15.toNat).2)).toList))
                                        else none)
                                  else some (.inr false))
                              else some (.inl (x11, x12, x13, x14, IntKind.i64.wrap (x15 + (1 : Int)))))
                              else none)
                        else 
                          (inR (bif !x14 then some (decide ((x13.length : Int) = (0 : Int)))
                            else some false)))
                        (x1, x2, x9, x10, 0))))
              else some false))))))
def torporlaw04_SectionLists : ((List (Int × List Int)) × Int) → Option (Bool) := torporlaw04_SectionLists_g LOOPx torporref04_All torporref04_Great section_All section_Find torporlaw04_alive
theorem torporlaw04_SectionLists_ok : FnOK Go.Proofs.Try.prog fn_torporlaw04_SectionLists sg_torporlaw04_SectionLists torporlaw04_SectionLists := fn_of (P := Go.Proofs.Try.prog) (f := fn_torporlaw04_SectionLists) (sg := sg_torporlaw04_SectionLists) (sgs := [(fn_torporref04_All, sg_torporref04_All), (fn_torporref04_Great, sg_torporref04_Great), (fn_section_All, sg_section_All), (fn_section_Find, sg_section_Find), (fn_torporlaw04_alive, sg_torporlaw04_alive)]) (Gd := fun LP gs => torporlaw04_SectionLists_g LP gs.1 gs.2.1 gs.2.2.1 gs.2.2.2.1 gs.2.2.2.2.1) (hn := []) (h := [(36, false, ⟨[(0, .vs 0 (.pr (.int .u8) (.sl (.int .u8)))), (1, .it .u8), (9, .vs 0 (.int .u8)), (10, .bo), (11, .it .i64)], []⟩)]) (torporref04_All, torporref04_Great, section_All, section_Find, torporlaw04_alive, ()) ⟨torporref04_All_ok, torporref04_Great_ok, section_All_ok, section_Find_ok, torporlaw04_alive_ok, trivial⟩ (by kernel_rfl) (by kernel_rfl)

/-- torporlaw04.SectionBack -/
abbrev fn_torporlaw04_SectionBack : FuncId := 6
def sg_torporlaw04_SectionBack : Sig := ⟨⟨[(0, .vs 0 (.pr (.int .u8) (.sl (.int .u8)))), (1, .vs 1 (.int .u8))], []⟩, [⟨[(0, .bo)], []⟩]⟩
def torporlaw04_SectionBack_g (LP : LPT) (torporref04_Same : ((List (Int × List Int)) × List (Int × List Int)) → Option (Bool)) (torporref04_Great : (List (Int × List Int)) → Option (Bool)) (section_All : (List (Int × List Int)) → Option (Int × List Int)) (section_List : (List Int) → Option (Int × List (Int × List Int))) (torporlaw04_alive : Unit → Option (Bool)) : ((List (Int × List Int)) × List Int) → Option (Bool) := fun (x1, x2) =>
  (torporlaw04_alive ()).bind fun x3 => 
    (bif !x3 then some false
    else 
      ((torporref04_Great x1).bind fun x4 => 
        (bif !x4 then 
            (bif decide ((2000 : Int) < (x2.length : Int)) then some true
            else 
              ((section_All x1).bind fun (x5, x6) => 
                (Option.bind (α := (List Int) ⊕ Bool) (β := Bool) (bif decide (x5 = (0 : Int)) then 
                      ((section_List x6).bind fun (x7, x8) => 
                        (bif !(!decide (x7 = (0 : Int))) then 
                            ((torporref04_Same (x8, x1)).bind fun x9 => 
                              (bif !x9 then some (.inr false)
                              else some (.inl x2)))
                        else some (.inr false)))
                  else some (.inl x2))
                  fun z => match z with
                  | .inl x10 => (section_List x10).bind fun (x11, x12) => 
                      (bif !decide (x11 = (0 : Int)) then some (decide ((x12.length : Int) = (0 : Int)))
                      else 
                        ((section_All x12).bind fun (x13, x14) => 
                          (bif decide (x13 = (0 : Int)) then some ((bst x14).toList == (bst x10).toList)
                          else some false)))
                  | .inr o => some o)))
        else some true)))
def torporlaw04_SectionBack : ((List (Int × List Int)) × List Int) → Option (Bool) := torporlaw04_SectionBack_g LOOPx torporref04_Same torporref04_Great section_All section_List torporlaw04_alive
theorem torporlaw04_SectionBack_ok : FnOK Go.Proofs.Try.prog fn_torporlaw04_SectionBack sg_torporlaw04_SectionBack torporlaw04_SectionBack := fn_of (P := Go.Proofs.Try.prog) (f := fn_torporlaw04_SectionBack) (sg := sg_torporlaw04_SectionBack) (sgs := [(fn_torporref04_Same, sg_torporref04_Same), (fn_torporref04_Great, sg_torporref04_Great), (fn_section_All, sg_section_All), (fn_section_List, sg_section_List), (fn_torporlaw04_alive, sg_torporlaw04_alive)]) (Gd := fun LP gs => torporlaw04_SectionBack_g LP gs.1 gs.2.1 gs.2.2.1 gs.2.2.2.1 gs.2.2.2.2.1) (hn := []) (h := [(21, true, ⟨[(1, .vs 1 (.int .u8))], []⟩)]) (torporref04_Same, torporref04_Great, section_All, section_List, torporlaw04_alive, ()) ⟨torporref04_Same_ok, torporref04_Great_ok, section_All_ok, section_List_ok, torporlaw04_alive_ok, trivial⟩ (by kernel_rfl) (by kernel_rfl)

/-- torporlaw04.SectionTells -/
abbrev fn_torporlaw04_SectionTells : FuncId := 7
def sg_torporlaw04_SectionTells : Sig := ⟨⟨[(0, .ag [.it .u8, .vs 0 (.int .u8)]), (1, .it .u16), (2, .it .u8)], []⟩, [⟨[(0, .bo)], []⟩]⟩
def torporlaw04_SectionTells_g (LP : LPT) (torporref02_Bytes : Int → Option (List Int)) (section_Append : ((List Int) × Int × List Int) → Option (Int × List Int)) (section_Read : ((List Int) × Int) → Option ((Int × Int × Int) × List Int)) (torporlaw04_alive : Unit → Option (Bool)) : ((Int × List Int) × Int × Int) → Option (Bool) := fun ((x1, x2), x3, x4) =>
  (torporlaw04_alive ()).bind fun x5 => 
    (bif !x5 then some false
    else 
      (bif !(decide (x1 = (0 : Int))) then 
          (bif decide ((500 : Int) < (x2.length : Int)) then some true
          else 
            ((section_Append ([], x1, x2)).bind fun (x6, x7) => 
              ((torporref02_Bytes (IntKind.u64.wrap (x2.length : Int))).bind fun x8 => 
                (bif !(!decide (x6 = (0 : Int))) then 
                    (bif !decide ((x7.length : Int) = (IntKind.i64.wrap ((IntKind.i64.wrap ((IntKind.i64.wrap ((1 : Int) + (x8.length : Int))) + (x2.length : Int))) + (4 : Int)))) then some false
                    else 
                      (bif !decide ((IntKind.i64.wrap ((IntKind.i64.wrap ((1 : Int) + (x2.length : Int))) + (4 : Int))) = 0) then 
                        (Option.bind (α := ((Int × Int) × List Int) ⊕ Bool) (β := Bool) (bif decide ((0 : Int) < ((IntKind.i64.wrap x3).tmod (IntKind.i64.wrap ((IntKind.i64.wrap ((1 : Int) + (x2.length : Int))) + (4 : Int))))) then some (.inl ((x4, IntKind.i64.wrap ((IntKind.i64.wrap (((IntKind.i64.wrap x3).tmod (IntKind.i64.wrap ((IntKind.i64.wrap ((1 : Int) + (x2.length : Int))) + (4 : Int)))) - (1 : Int))) + (IntKind.i64.wrap ((1 : Int) + (x8.length : Int))))), x7))
                          else some (.inl ((x4, (IntKind.i64.wrap x3).tmod (IntKind.i64.wrap ((IntKind.i64.wrap ((1 : Int) + (x2.length : Int))) + (4 : Int)))), x7)))
                          fun z => match z with
                          | .inl ((x9, x10), x11) => bif decide ((([] : List Int).length + x11.length) * 1 ≤ 140737488355328) then 
                              (bif decide (0 ≤ x10) && decide (x10 < ((([] : List Int) ++ x11).length : Int)) then 
                                (bif decide (x10.toNat < (([] : List Int) ++ x11).length) then 
                                  ((section_Read ((([] : List Int) ++ x11).set x10.toNat x9, 0)).bind fun ((x12, x13, x14), x15) => 
                                    (bif decide (0 ≤ x10) && decide (x10 < (x11.length : Int)) then 
                                      (bif decide (x10.toNat < x11.length) then 
                                        (bif decide (x9 = (Ty.at (.int .u8) x11 x10.toNat)) then some (decide (x14 = (0 : Int)))
                                        else 
                                          (bif !(decide (x14 = (5 : Int))) then 
                                              (bif decide (x10 = (0 : Int)) then 
                                                  (bif decide (x9 = (0 : Int)) then some (decide (x14 = (3 : Int)))
                                                  else some false)
                                              else some false)
                                          else some true))
                                        else none)
                                      else none))
                                  else none)
                                else none)
                              else none
                          | .inr o => some o)
                        else none))
                else some false))))
      else some true))
def torporlaw04_SectionTells : ((Int × List Int) × Int × Int) → Option (Bool) := torporlaw04_SectionTells_g LOOPx torporref02_Bytes section_Append section_Read torporlaw04_alive
theorem torporlaw04_SectionTells_ok : FnOK Go.Proofs.Try.prog fn_torporlaw04_SectionTells sg_torporlaw04_SectionTells torporlaw04_SectionTells := fn_of (P := Go.Proofs.Try.prog) (f := fn_torporlaw04_SectionTells) (sg := sg_torporlaw04_SectionTells) (sgs := [(fn_torporref02_Bytes, sg_torporref02_Bytes), (fn_section_Append, sg_section_Append), (fn_section_Read, sg_section_Read), (fn_torporlaw04_alive, sg_torporlaw04_alive)]) (Gd := fun LP gs => torporlaw04_SectionTells_g LP gs.1 gs.2.1 gs.2.2.1 gs.2.2.2.1) (hn := []) (h := [(33, true, ⟨[(2, .it .u8), (7, .gr 0), (10, .it .i64)], [.gs true (.int .u8)]⟩)]) (torporref02_Bytes, section_Append, section_Read, torporlaw04_alive, ()) ⟨torporref02_Bytes_ok, section_Append_ok, section_Read_ok, torporlaw04_alive_ok, trivial⟩ (by kernel_rfl) (by kernel_rfl)

end Go.AX
end
