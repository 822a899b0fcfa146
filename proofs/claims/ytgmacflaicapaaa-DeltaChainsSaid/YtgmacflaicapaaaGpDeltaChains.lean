/- The law DeltaChains, in plain terms. -/
import Derived.Test.YtgmacflaicapaaaGcA
import Derived.Test.YtgmacflaicapaaaGeB
import Derived.Test.YtgmacflaicapaaaGqDeltaChains
section
set_option linter.unusedSimpArgs false
set_option linter.unusedVariables false
namespace Go.AX
open Go
theorem xor_div2 (a b : Nat) : (a ^^^ b) / 2 = (a / 2) ^^^ (b / 2) := by
  have := Nat.shiftRight_xor_distrib (a := a) (b := b) (i := 1)
  simpa [Nat.shiftRight_eq_div_pow] using this
theorem xor_mod2 (a b : Nat) : (a ^^^ b) % 2 = (a % 2) ^^^ (b % 2) := Nat.xor_mod_two_pow (n := 1)
theorem xor4 (a b c d : Nat) : (a ^^^ b) ^^^ (c ^^^ d) = (a ^^^ c) ^^^ (b ^^^ d) := by
  rw [Nat.xor_assoc, Nat.xor_assoc, ← Nat.xor_assoc b, Nat.xor_comm b c, Nat.xor_assoc]
theorem cd_xor (a b : Nat) : cd (a ^^^ b) = cd a ^^^ cd b := by
  have h := xor_mod2 a b
  unfold cd
  rw [xor_div2]
  have ha : a % 2 = 0 ∨ a % 2 = 1 := by omega
  have hb : b % 2 = 0 ∨ b % 2 = 1 := by omega
  rcases ha with ha | ha <;> rcases hb with hb | hb <;> rw [ha, hb] at h
  · rw [if_neg (by rw [h]; decide), if_neg (by omega), if_neg (by omega)]
  · rw [if_pos (by rw [h]; decide), if_neg (by omega), if_pos (by omega), Nat.xor_assoc]
  · rw [if_pos (by rw [h]; decide), if_pos (by omega), if_neg (by omega), Nat.xor_assoc, Nat.xor_comm (b / 2), Nat.xor_assoc]
  · rw [if_neg (by rw [h]; decide), if_pos (by omega), if_pos (by omega), xor4, Nat.xor_self, Nat.xor_zero]
theorem cdn_xor : ∀ (n a b : Nat), cdn n (a ^^^ b) = cdn n a ^^^ cdn n b
  | 0, _, _ => rfl
  | n + 1, a, b => by simp only [cdn, cd_xor, cdn_xor n]
theorem cdn_high : ∀ (n z : Nat), cdn n (2 ^ n * z) = z
  | 0, z => by simp [cdn]
  | n + 1, z => by
    have h : 2 ^ (n + 1) * z = 2 * (2 ^ n * z) := by rw [Nat.pow_succ, Nat.mul_comm (2 ^ n) 2, Nat.mul_assoc]
    have h1 : cd (2 ^ (n + 1) * z) = 2 ^ n * z := by
      rw [h]; unfold cd; rw [if_neg (by omega)]; omega
    simp only [cdn, h1, cdn_high n]
theorem split8 (y : Nat) : y = (y % 256) ^^^ (2 ^ 8 * (y / 256)) := by
  apply Nat.eq_of_testBit_eq
  intro i
  rw [Nat.testBit_xor, show (256 : Nat) = 2 ^ 8 from rfl, Nat.testBit_mod_two_pow, Nat.testBit_two_pow_mul, Nat.testBit_div_two_pow]
  by_cases h : i < 8
  · simp [h, show ¬ i ≥ 8 by omega]
  · simp [h, show i ≥ 8 by omega, show 8 + (i - 8) = i by omega]
theorem div_xor8 {c x : Nat} (hx : x < 256) : (c ^^^ x) / 256 = c / 256 := by
  have := Nat.shiftRight_xor_distrib (a := c) (b := x) (i := 8)
  simp only [Nat.shiftRight_eq_div_pow, show (2 : Nat) ^ 8 = 256 from rfl] at this
  rw [this, show x / 256 = 0 by omega, Nat.xor_zero]
theorem step_cdn {c x : Nat} (hx : x < 256) : step (cdn 8) c x = cdn 8 (c ^^^ x) := by
  have h := congrArg (cdn 8) (split8 (c ^^^ x))
  rw [cdn_xor 8 ((c ^^^ x) % 256), cdn_high, div_xor8 hx] at h
  exact h.symm
def put3 : List Nat → List Nat → List Nat → List Nat
  | x :: a, y :: b, z :: c => (x ^^^ y ^^^ z) :: put3 a b c
  | _, _, _ => []
theorem sub_xor {t : Nat} (h : t < 4294967296) : 4294967295 - t = t ^^^ 4294967295 := by
  apply Nat.eq_of_testBit_eq
  intro i
  have h1 : 4294967295 - t = 2 ^ 32 - (t + 1) := by omega
  have h2 : (4294967295 : Nat) = 2 ^ 32 - 1 := by decide
  rw [h1, Nat.testBit_two_pow_sub_succ (by simpa using h), Nat.testBit_xor, h2, Nat.testBit_two_pow_sub_one]
  by_cases hi : i < 32
  · simp [hi]
  · have : t.testBit i = false := Nat.testBit_lt_two_pow (Nat.lt_of_lt_of_le h (Nat.pow_le_pow_right (show 0 < 2 by decide) (show 32 ≤ i by omega)))
    simp [hi, this]
end Go.AX
end
section
set_option linter.unusedSimpArgs false
set_option linter.unusedVariables false
namespace Go.AX
open Go
theorem big : 1000000000000 < FUEL := by decide
theorem at_u8 {l : List Int} {i : Nat} : Ty.at (.int .u8) l i = l.getD i 0 := rfl
def Byt (l : List Int) : Prop := ∀ x ∈ l, 0 ≤ x ∧ x < 256
def cs (l : List Int) : Int := ((sum (l.map Int.toNat) : Nat) : Int)
theorem crcG_eq {l : List Int} (h : Byt l) (hl : l.length ≤ 1000000) : crcG l = some (cs l) := by
  unfold crcG
  rw [u8ok_iff.2 h, decide_eq_true hl]; rfl
theorem down_eq (x : Nat) (h : x < 4294967296) : torporref03_down (x : Int) = some ((cdn 8 x : Nat) : Int) := by
  unfold torporref03_down torporref03_down_g
  refine (LOOP_m (fun s => 0 ≤ s.1 ∧ s.1 < 4294967296 ∧ 0 ≤ s.2 ∧ s.2 ≤ 8) (fun s => 8 - s.2.toNat) (fun s => ((cdn (8 - s.2.toNat) s.1.toNat : Nat) : Int)) ?_ ⟨by simp, by simp; omega, by simp, by simp⟩ (by have := big; simp; omega)).trans (by simp)
  rintro ⟨n, i⟩ ⟨h0, h1, h2, h3⟩
  dsimp only at *
  obtain ⟨n, rfl⟩ := Int.eq_ofNat_of_zero_le h0
  obtain ⟨i, rfl⟩ := Int.eq_ofNat_of_zero_le h2
  simp only [cond_b, decide_eq_true_eq, Bool.and_eq_true, Bool.not_eq_true', decide_eq_false_iff_not, Bool.or_eq_true, Bool.not_eq_eq_eq_not, Bool.not_true, Bool.not_false, beq_iff_eq, Option.bind_some, Bool.not_not, decide_eq_true_eq, Decidable.not_not, and_true]
  by_cases hi : (i : Int) < 8
  · rw [if_pos hi, if_pos (by decide), if_pos (by decide)]
    have e1 : (n : Int).tmod 2 = ((n % 2 : Nat) : Int) := rfl
    have e2 : (n : Int).tdiv 2 = ((n / 2 : Nat) : Int) := rfl
    rw [e1, e2, u32_n (by omega), i64_s (by omega)]
    have hcd : cd n < 4294967296 := cd_lt (by omega)
    have e3 : (8 - i : Nat) = (8 - (i + 1)) + 1 := by omega
    have e4 : Go.bits .xor .u32 ((n / 2 : Nat) : Int) 3988292384 = (((n / 2) ^^^ 3988292384 : Nat) : Int) := bits_xor32 (b := 3988292384) (by omega) (by decide)
    rw [e4]
    refine StepOK_ite (fun h => ?_) (fun h => ?_)
    · have hc : cd n = (n / 2) ^^^ 3988292384 := by unfold cd; rw [if_pos (by omega)]
      rw [← hc]
      refine StepOK_inl ⟨by simp only [Int.toNat_natCast]; omega, ⟨by omega, by omega, by omega, by omega⟩, ?_⟩
      simp only [Int.toNat_natCast, e3]; rfl
    · have hc : cd n = n / 2 := by unfold cd; rw [if_neg (by omega)]
      rw [← hc]
      refine StepOK_inl ⟨by simp only [Int.toNat_natCast]; omega, ⟨by omega, by omega, by omega, by omega⟩, ?_⟩
      simp only [Int.toNat_natCast, e3]; rfl
  · rw [if_neg hi]
    have : i = 8 := by omega
    subst this
    exact StepOK_inr rfl
theorem getD_drop {l : List Int} {i : Nat} (h : i < l.length) : l.drop i = l.getD i 0 :: l.drop (i + 1) := by
  rw [List.getD_eq_getElem?_getD, List.getElem?_eq_getElem h, Option.getD_some]; exact List.drop_eq_getElem_cons h
theorem Byt.at_ {l : List Int} (hb : Byt l) {i : Nat} : 0 ≤ l.getD i 0 ∧ l.getD i 0 < 256 := by
  rw [List.getD_eq_getElem?_getD]
  cases h : l[i]? with
  | none => simp
  | some x => exact hb x (List.mem_of_getElem? h)
theorem Go_eq (c : Nat) (hc : c < 4294967296) (l : List Int) (hb : Byt l) (hl : l.length ≤ 1000000) : torporref03_Go ((c : Int), l) = some ((upd (cdn 8) c (l.map Int.toNat) : Nat) : Int) := by
  unfold torporref03_Go torporref03_Go_g
  refine (LOOP_m (fun s => 0 ≤ s.1 ∧ s.1 < 4294967296 ∧ s.2.1 = l ∧ 0 ≤ s.2.2 ∧ s.2.2 ≤ (l.length : Int)) (fun s => l.length - s.2.2.toNat) (fun s => ((upd (cdn 8) s.1.toNat ((l.drop s.2.2.toNat).map Int.toNat) : Nat) : Int)) ?_ ⟨by simp, by simp; omega, rfl, by simp, by simp⟩ (by have := big; simp; omega)).trans (by simp)
  rintro ⟨n, a, i⟩ ⟨h0, h1, rfl, h2, h3⟩
  dsimp only at *
  obtain ⟨n, rfl⟩ := Int.eq_ofNat_of_zero_le h0
  obtain ⟨i, rfl⟩ := Int.eq_ofNat_of_zero_le h2
  simp only [cond_b, decide_eq_true_eq, Bool.and_eq_true, Bool.not_eq_true', decide_eq_false_iff_not, Bool.or_eq_true, Bool.not_eq_eq_eq_not, Bool.not_true, Bool.not_false, beq_iff_eq, Option.bind_some, Bool.not_not, decide_eq_true_eq, Decidable.not_not, and_true, at_u8]
  by_cases hi : (i : Int) < a.length
  · rw [if_pos hi, if_pos ⟨by omega, hi⟩]
    have hlt : i < a.length := by omega
    have hx := hb.at_ (i := i)
    have hdr := getD_drop hlt
    simp only [Int.toNat_natCast]
    generalize a.getD i 0 = x at *
    obtain ⟨x, rfl⟩ := Int.eq_ofNat_of_zero_le hx.1
    have hx2 : x < 256 := by omega
    have hxr : n ^^^ x < 4294967296 := Nat.xor_lt_two_pow (n := 32) (by omega) (by omega)
    rw [u32_n (by omega), bits_xor32 (by omega) (by omega), down_eq _ hxr, i64_s (by omega)]
    refine StepOK_inl ⟨by simp only [Int.toNat_natCast]; omega, ⟨by omega, by have := cdn_lt (n := 8) hxr; omega, rfl, by dsimp only; omega, by dsimp only; omega⟩, ?_⟩
    simp only [Int.toNat_natCast, hdr, List.map_cons, upd, List.foldl_cons, step_cdn hx2]
  · rw [if_neg hi]
    have : i = a.length := by omega
    subst this
    refine StepOK_inr ?_
    simp [upd]
theorem rSum_eq {l : List Int} (hb : Byt l) (hl : l.length ≤ 1000000) : torporref03_Sum l = some (cs l) := by
  unfold torporref03_Sum torporref03_Sum_g
  have := Go_eq 4294967295 (by decide) l hb hl
  have e : torporref03_Go (4294967295, l) = some ((upd (cdn 8) 4294967295 (l.map Int.toNat) : Nat) : Int) := this
  rw [e]
  have hlt : upd (cdn 8) 4294967295 (l.map Int.toNat) < 4294967296 := upd_lt Tab.crc (by decide)
  simp only [Option.bind_some, Option.some.injEq, cs, sum]
  rw [← sub_xor hlt, IntKind.wrap_u32]
  omega
end Go.AX
end
section
set_option linter.unusedSimpArgs false
set_option linter.unusedVariables false
set_option maxRecDepth 100000
namespace Go.AX
open Go
def tbl : ByteArray := (⟨#[0, 1, 2, 2, 3, 3, 3, 3, 4, 4, 4, 4, 4, 4, 4, 4, 5, 5, 5, 5, 5, 5, 5, 5, 5, 5, 5, 5, 5, 5, 5, 5, 6, 6, 6, 6, 6, 6, 6, 6, 6, 6, 6, 6, 6, 6, 6, 6, 6, 6, 6, 6, 6, 6, 6, 6, 6, 6, 6, 6, 6, 6, 6, 6, 7, 7, 7, 7, 7, 7, 7, 7, 7, 7, 7, 7, 7, 7, 7, 7, 7, 7, 7, 7, 7, 7, 7, 7, 7, 7, 7, 7, 7, 7, 7, 7, 7, 7, 7, 7, 7, 7, 7, 7, 7, 7, 7, 7, 7, 7, 7, 7, 7, 7, 7, 7, 7, 7, 7, 7, 7, 7, 7, 7, 7, 7, 7, 7, 8, 8, 8, 8, 8, 8, 8, 8, 8, 8, 8, 8, 8, 8, 8, 8, 8, 8, 8, 8, 8, 8, 8, 8, 8, 8, 8, 8, 8, 8, 8, 8, 8, 8, 8, 8, 8, 8, 8, 8, 8, 8, 8, 8, 8, 8, 8, 8, 8, 8, 8, 8, 8, 8, 8, 8, 8, 8, 8, 8, 8, 8, 8, 8, 8, 8, 8, 8, 8, 8, 8, 8, 8, 8, 8, 8, 8, 8, 8, 8, 8, 8, 8, 8, 8, 8, 8, 8, 8, 8, 8, 8, 8, 8, 8, 8, 8, 8, 8, 8, 8, 8, 8, 8, 8, 8, 8, 8, 8, 8, 8, 8, 8, 8, 8, 8, 8, 8, 8, 8, 8, 8, 8, 8, 8, 8, 8, 8]⟩ : ByteArray)
theorem sh (x : Int) (n : Nat) (m : Int) (hm : (2 : Int) ^ n = m) (h : 0 < m) : x.fdiv (2 ^ n) = x / m := by
  rw [hm]; exact Int.fdiv_eq_ediv_of_nonneg _ (by omega)
def leB : Nat → Int → List Int
  | 0, _ => []
  | n + 1, v => v % 256 :: leB n (v / 256)
theorem Byt.app {l m : List Int} (h : Byt l) (g : Byt m) : Byt (l ++ m) := fun x hx => (List.mem_append.1 hx).elim (h x) (g x)
end Go.AX
end
section
set_option linter.unusedSimpArgs false
set_option linter.unusedVariables false
set_option maxRecDepth 100000
namespace Go.AX
open Go
def leV : List Int → Int
  | [] => 0
  | b :: r => b + 256 * leV r
theorem Byt.take {l : List Int} (h : Byt l) (n : Nat) : Byt (l.take n) := fun x hx => h x (List.mem_of_mem_take hx)
theorem Byt.drop {l : List Int} (h : Byt l) (n : Nat) : Byt (l.drop n) := fun x hx => h x (List.mem_of_mem_drop hx)
def seg (l : List Int) (i n : Nat) : List Int := (l.take (i + n)).drop i
end Go.AX
end
section
set_option linter.unusedSimpArgs false
set_option linter.unusedVariables false
set_option maxRecDepth 100000
namespace Go.AX
open Go
def vB (n : Nat) : List Int := if n < 128 then [(n : Int)] else ((n % 128 + 128 : Nat) : Int) :: vB (n / 128)
termination_by n
decreasing_by omega
def vR (i : Nat) : List Int → Int ⊕ (Int × Nat)
  | [] => .inl 2
  | c :: r => if i = 9 ∧ 1 < c then .inl 4 else if 127 < c then (match vR (i + 1) r with | .inl e => .inl e | .inr (v, k) => .inr (c % 128 + 128 * v, k + 1)) else if c = 0 ∧ 0 < i then .inl 3 else .inr (c, 1)
def vT (p i : Nat) (a m : Int) : Int ⊕ (Int × Nat) → Int × Int × Int
  | .inl e => (0, 0, e)
  | .inr (v, k) => (a + m * v, ((p + i + k : Nat) : Int), 0)
end Go.AX
end
section
set_option linter.unusedSimpArgs false
set_option linter.unusedVariables false
set_option maxRecDepth 100000
namespace Go.AX
open Go
def own (t : Int) (body : List Int) : List Int := [t] ++ vB body.length ++ body
def secB (t : Int) (body : List Int) : List Int := own t body ++ leB 4 (cs (own t body))
def appS (b : List Int) (t : Int) (body : List Int) : Int × List Int := if t = 0 then (3, []) else if 65535 < body.length then (4, []) else (0, b ++ secB t body)
abbrev Sec := Int × List Int
def secOK (s : Sec) : Prop := (0 ≤ s.1 ∧ s.1 < 256) ∧ Byt s.2
def SecsOK (l : List Sec) : Prop := ∀ s ∈ l, secOK s
def wt : List Sec → Nat
  | [] => 0
  | s :: r => 1 + s.2.length + wt r
def allS (last : Int) : List Sec → List Int → Int × List Int
  | [], out => (0, out)
  | s :: r, out => if s.1 ≤ last then (3, []) else if 65535 < s.2.length then (4, []) else allS s.1 r (out ++ secB s.1 s.2)
abbrev ta (l : List Sec) (i : Nat) : Sec := Ty.at (.pr (.int .u8) (.sl (.int .u8))) l i
end Go.AX
end
section
set_option linter.unusedSimpArgs false
set_option linter.unusedVariables false
set_option maxRecDepth 100000
namespace Go.AX
open Go
def pS : List Int → Int ⊕ (Int × List Int × Nat)
  | [] => .inl 2
  | t :: r => if t = 0 then .inl 3 else match vR 0 r with
    | .inl e => .inl e
    | .inr (n, k) => if 65535 < n then .inl 4 else if r.length < k + n.toNat + 4 then .inl 2 else if cs ((t :: r).take (1 + k + n.toNat)) = leV (seg r (k + n.toNat) 4) then .inr (t, seg r k n.toNat, 1 + k + n.toNat + 4) else .inl 5
def lenS (b : List Int) (p : Nat) : Int ⊕ (Int × Nat) → (Int × List Int × Int) ⊕ Int
  | .inl e => .inr e
  | .inr (v, k) => if 65535 < v then .inr 4 else .inl (v, b, ((p + k : Nat) : Int))
def secS (b : List Int) (p : Nat) : Int ⊕ (Int × List Int × Nat) → (Int × (List Int × Int) × List Int) ⊕ Int
  | .inl e => .inr e
  | .inr (t, body, k) => .inl (t, (b, ((p + k : Nat) : Int)), body)
theorem Clone_eq {l : List Int} (h : l.length ≤ 1000000) : Clone_byte l = some l := by
  unfold Clone_byte cloneG
  rw [decide_eq_true (by omega)]; rfl
end Go.AX
end
section
set_option linter.unusedSimpArgs false
set_option linter.unusedVariables false
set_option maxRecDepth 100000
namespace Go.AX
open Go
def redS (p : Nat) : Int ⊕ (Int × List Int × Nat) → (Int × Int × Int) × List Int
  | .inl e => ((0, 0, e), [])
  | .inr (t, body, k) => ((t, ((p + k : Nat) : Int), 0), body)
end Go.AX
end
section
set_option linter.unusedSimpArgs false
set_option linter.unusedVariables false
set_option maxRecDepth 100000
namespace Go.AX
open Go
def lS : Nat → Int → List Int → List Sec → Int × List Sec
  | 0, _, _, acc => (0, acc)
  | f + 1, last, r, acc => if r.length = 0 then (0, acc) else match pS r with
    | .inl e => (e, [])
    | .inr (t, body, k) => if t ≤ last then (3, []) else lS f t (r.drop k) (acc ++ [(t, body)])
def lastOf (acc : List Sec) : Int := if acc.length = 0 then 0 else (ta acc (acc.length - 1)).1
end Go.AX
end
section
set_option linter.unusedSimpArgs false
set_option linter.unusedVariables false
set_option maxRecDepth 100000
namespace Go.AX
open Go
def flatS : List Sec → List Int
  | [] => []
  | s :: r => secB s.1 s.2 ++ flatS r
def asc (last : Int) : List Sec → Prop
  | [] => True
  | s :: r => last < s.1 ∧ s.2.length ≤ 65535 ∧ asc s.1 r
end Go.AX
end
section
set_option linter.unusedSimpArgs false
set_option linter.unusedVariables false
set_option maxRecDepth 100000
namespace Go.AX
open Go
def bl (b : List Int) (i : Nat) : List Int := (b.drop (16 * i)).take 16
def bz (n i : Nat) : Nat := min 16 (n - 16 * i)
def bzI (n : Nat) (a : Int) : Nat := if a < 0 then 0 else bz n a.toNat
theorem bl_len {b : List Int} {i : Nat} : (bl b i).length = bz b.length i := by unfold bl bz; simp
theorem bl_byt {b : List Int} (h : Byt b) (i : Nat) : Byt (bl b i) := (h.drop _).take _
theorem blocks_eq {n : Nat} (h : n ≤ 1000000) : delta_blocks (n : Int) = some (((n + 15) / 16 : Nat) : Int) := by
  unfold delta_blocks delta_blocks_g
  simp only [cond_b, decide_eq_true_eq, Bool.and_eq_true, Bool.not_eq_true', decide_eq_false_iff_not, Bool.or_eq_true, Bool.not_eq_eq_eq_not, Bool.not_true, Bool.not_false, beq_iff_eq, Option.bind_some, Bool.not_not, decide_eq_true_eq, Decidable.not_not, and_true]
  rw [if_pos (by decide), wrap_i64 (x := (n : Int) + 16) (by omega), wrap_i64 (x := (n : Int) + 16 - 1) (by omega), Int.tdiv_eq_ediv_of_nonneg (by omega), wrap_i64 (by omega)]
  congr 1; omega
theorem length_eq28 {n : Nat} (h : n ≤ 1000000) (a : Int) : delta_length ((n : Int), a) = some ((bzI n a : Nat) : Int) := by
  unfold delta_length delta_length_g bzI
  simp only [cond_b, decide_eq_true_eq, Bool.and_eq_true, Bool.not_eq_true', decide_eq_false_iff_not, Bool.or_eq_true, Bool.not_eq_eq_eq_not, Bool.not_true, Bool.not_false, beq_iff_eq, Option.bind_some, Bool.not_not, decide_eq_true_eq, Decidable.not_not, and_true]
  by_cases ha : a < 0
  · rw [if_neg (by omega), if_pos ha]; rfl
  · rw [if_pos ha, if_neg ha, blocks_eq h]
    simp only [Option.bind_some]
    by_cases hb : (((n + 15) / 16 : Nat) : Int) ≤ a
    · rw [if_pos hb]
      congr 1
      unfold bz; omega
    · rw [if_neg hb, wrap_i64 (x := a * 16) (by omega), wrap_i64 (by omega)]
      congr 1
      unfold bz
      split <;> omega
theorem block_eq28 {b : List Int} (h : b.length ≤ 1000000) (i : Nat) : delta_block (b, (i : Int)) = some (bl b i) := by
  unfold delta_block delta_block_g
  dsimp only
  simp only [cond_b, decide_eq_true_eq, Bool.and_eq_true, Bool.not_eq_true', decide_eq_false_iff_not, Bool.or_eq_true, Bool.not_eq_eq_eq_not, Bool.not_true, Bool.not_false, beq_iff_eq, Option.bind_some, Bool.not_not, decide_eq_true_eq, Decidable.not_not, and_true, length_eq28 h]
  have hz : bzI b.length (i : Int) = bz b.length i := by unfold bzI; rw [if_neg (by omega), Int.toNat_natCast]
  rw [hz]
  by_cases h0 : ((bz b.length i : Nat) : Int) = 0
  · rw [if_pos h0]
    have : (bl b i).length = 0 := by rw [bl_len]; omega
    rw [List.eq_nil_of_length_eq_zero this]
  · rw [if_neg h0]
    have hz2 : bz b.length i = min 16 (b.length - 16 * i) := rfl
    rw [wrap_i64 (x := (i : Int) * 16) (by omega), wrap_i64 (by omega), if_pos ⟨⟨by omega, by omega⟩, by omega, by omega⟩]
    congr 1
    unfold bl
    rw [show ((i : Int) * 16 + ((bz b.length i : Nat) : Int)).toNat = 16 * i + bz b.length i by omega, show ((i : Int) * 16).toNat = 16 * i by omega, List.drop_take]
    by_cases hf : 16 ≤ b.length - 16 * i
    · congr 1; omega
    · rw [List.take_of_length_le (by simp; omega), List.take_of_length_le (by simp; omega)]
theorem Block_eq28 {b : List Int} (h : b.length ≤ 70000) (a : Int) : torporref28_Block (b, a) = some (if a < 0 then [] else bl b a.toNat) := by
  unfold torporref28_Block torporref28_Block_g
  simp only [cond_b, decide_eq_true_eq, Bool.and_eq_true, Bool.not_eq_true', decide_eq_false_iff_not, Bool.or_eq_true, Bool.not_eq_eq_eq_not, Bool.not_true, Bool.not_false, beq_iff_eq, Option.bind_some, Bool.not_not, decide_eq_true_eq, Decidable.not_not, and_true]
  by_cases ha : a < 0
  · rw [if_neg (by omega), if_pos ha]
  · rw [if_pos ha, if_neg ha]
    obtain ⟨i, rfl⟩ := Int.eq_ofNat_of_zero_le (show 0 ≤ a by omega)
    rw [Int.toNat_natCast]
    have hnil : b.length ≤ 16 * i → bl b i = [] := fun hle => by unfold bl; rw [List.drop_of_length_le hle]; rfl
    by_cases h5 : (5000 : Int) < i
    · rw [if_neg (by omega), hnil (by omega)]
    · rw [if_pos h5, wrap_i64 (x := 16 * (i : Int)) (by omega)]
      by_cases hle : (b.length : Int) ≤ 16 * i
      · rw [if_pos hle, hnil (by omega)]
      · rw [if_neg hle, wrap_i64 (x := 16 * (i : Int) + 16) (by omega)]
        generalize hm : (if 16 * (i : Int) + 16 < b.length then 16 * (i : Int) + 16 else (b.length : Int)) = m
        have hm2 : m = min (16 * (i : Int) + 16) b.length := by rw [← hm]; split <;> omega
        rw [if_pos ⟨⟨by omega, by omega⟩, by omega, by omega⟩]
        congr 1
        unfold bl
        rw [List.drop_take, show (16 * (i : Int)).toNat = 16 * i by omega]
        by_cases hf : 16 ≤ b.length - 16 * i
        · congr 1; omega
        · rw [List.take_of_length_le (by simp; omega), List.take_of_length_le (by simp; omega)]
theorem size_eq28 {n : Nat} (h : n ≤ 70000) (a : Int) : torporref28_size ((n : Int), a) = some ((bzI n a : Nat) : Int) := by
  unfold torporref28_size torporref28_size_g
  simp only [cond_b, decide_eq_true_eq, Bool.and_eq_true, Bool.not_eq_true', decide_eq_false_iff_not, Bool.or_eq_true, Bool.not_eq_eq_eq_not, Bool.not_true, Bool.not_false, beq_iff_eq, Option.bind_some, Bool.not_not, decide_eq_true_eq, Decidable.not_not, and_true]
  rw [if_pos ⟨by omega, by omega, by omega, by omega⟩, Block_eq28 (by simp; omega)]
  simp only [Option.bind_some]
  unfold bzI
  split
  · rfl
  · rw [bl_len]; simp
theorem Equal_eq {x y : List Int} (hx : x.length ≤ 1000000) : Equal_byte (x, y) = some (decide (x = y)) := by
  unfold Equal_byte Equal_byte_g
  simp only [cond_b, decide_eq_true_eq, Bool.and_eq_true, Bool.not_eq_true', decide_eq_false_iff_not, Bool.or_eq_true, Bool.not_eq_eq_eq_not, Bool.not_true, Bool.not_false, beq_iff_eq, Option.bind_some, Bool.not_not, decide_eq_true_eq, Decidable.not_not, and_true]
  by_cases hl : (x.length : Int) = y.length
  · rw [if_neg (fun h => h hl)]
    refine (LOOP_m (fun s => s.1 = x ∧ s.2.1 = y ∧ s.2.2.1 = (x.length : Int) ∧ 0 ≤ s.2.2.2 ∧ s.2.2.2 ≤ (x.length : Int)) (fun s => x.length - s.2.2.2.toNat) (fun s => decide (x.drop s.2.2.2.toNat = y.drop s.2.2.2.toNat)) ?_ ⟨rfl, rfl, rfl, by dsimp only; omega, by dsimp only; omega⟩ (by have := big; dsimp only; omega)).trans (by simp)
    rintro ⟨a, b, n, i⟩ ⟨e1, e2, e3, h2, h3⟩
    dsimp only at *
    subst e1; subst e2; subst e3
    obtain ⟨i, rfl⟩ := Int.eq_ofNat_of_zero_le h2
    have hb1 : i < a.length → a.drop i = a.getD i 0 :: a.drop (i + 1) := fun h => getD_drop h
    have hb2 : i < a.length → b.drop i = b.getD i 0 :: b.drop (i + 1) := fun h => getD_drop (by omega)
    by_cases hi : (i : Int) < a.length
    · rw [if_pos hi, if_pos ⟨h2, hi⟩, if_pos ⟨h2, by omega⟩]
      by_cases hq : a.getD i 0 = b.getD i 0
      · rw [if_neg (show ¬ ¬ Ty.at (.int .u8) a (Int.toNat (i : Int)) = Ty.at (.int .u8) b (Int.toNat (i : Int)) from fun h => h hq), wrap_i64 (by omega)]
        have e6 : ((i : Int) + 1).toNat = i + 1 := by omega
        refine StepOK_inl ⟨by dsimp only; omega, ⟨rfl, rfl, rfl, by dsimp only; omega, by dsimp only; omega⟩, ?_⟩
        dsimp only
        rw [e6, Int.toNat_natCast, hb1 (by omega), hb2 (by omega), hq]
        simp
      · rw [if_pos (show ¬ Ty.at (.int .u8) a (Int.toNat (i : Int)) = Ty.at (.int .u8) b (Int.toNat (i : Int)) from hq)]
        refine StepOK_inr ?_
        dsimp only
        rw [Int.toNat_natCast, hb1 (by omega), hb2 (by omega), decide_eq_false fun e => ?_]
        simp only [List.cons.injEq] at e
        exact hq e.1
    · rw [if_neg hi]
      refine StepOK_inr ?_
      dsimp only
      rw [Int.toNat_natCast, List.drop_of_length_le (by omega), List.drop_of_length_le (by omega)]; simp
  · rw [if_pos hl]
    have : x ≠ y := fun e => hl (by rw [e])
    simp [this]
end Go.AX
end
section
set_option linter.unusedSimpArgs false
set_option linter.unusedVariables false
set_option maxRecDepth 100000
namespace Go.AX
open Go
abbrev DBk := Int × List Int
abbrev tb (l : List DBk) (i : Nat) : DBk := Ty.at (.pr (.int .i64) (.sl (.int .u8))) l i
theorem tb_get {l : List DBk} {i : Nat} : tb l i = l.getD i (0, []) := rfl
theorem tb_drop {l : List DBk} {i : Nat} (h : i < l.length) : l.drop i = tb l i :: l.drop (i + 1) := by
  rw [tb_get, List.getD_eq_getElem?_getD, List.getElem?_eq_getElem h, Option.getD_some]; exact List.drop_eq_getElem_cons h
def rightL (n : Nat) : Int → List DBk → Bool
  | _, [] => true
  | last, x :: r => if last < x.1 ∧ ¬ x.2.length = 0 ∧ x.2.length = bzI n x.1 then rightL n x.1 r else false
theorem rightL_yes {n : Nat} {last : Int} {x : DBk} {r : List DBk} (h : last < x.1 ∧ ¬ x.2.length = 0 ∧ x.2.length = bzI n x.1) : rightL n last (x :: r) = rightL n x.1 r := by rw [rightL, if_pos h]
theorem rightL_no {n : Nat} {last : Int} {x : DBk} {r : List DBk} (h : ¬ (last < x.1 ∧ ¬ x.2.length = 0 ∧ x.2.length = bzI n x.1)) : rightL n last (x :: r) = false := by rw [rightL, if_neg h]
def RightS (b n : Int) (l : List DBk) : Bool := if (0 ≤ b ∧ b ≤ 65535) ∧ 0 ≤ n ∧ n ≤ 65535 then rightL n.toNat (-1) l else false
theorem within_eq (n : Int) : delta_within n = some (decide (0 ≤ n ∧ n ≤ 65535)) := by
  unfold delta_within delta_within_g
  simp only [cond_b, decide_eq_true_eq, Bool.and_eq_true, Bool.not_eq_true', decide_eq_false_iff_not, Bool.or_eq_true, Bool.not_eq_eq_eq_not, Bool.not_true, Bool.not_false, beq_iff_eq, Option.bind_some, Bool.not_not, decide_eq_true_eq, Decidable.not_not, and_true]
  by_cases h : 0 ≤ n
  · rw [if_pos h]; simp [h]
  · rw [if_neg h]; simp [h]
theorem sRight_eq {b bs n sm : Int} {l : List DBk} (hl : l.length ≤ 1000000) : delta_Right (b, bs, n, sm, l) = some (RightS b n l) := by
  unfold delta_Right delta_Right_g RightS
  dsimp only
  simp only [cond_b, decide_eq_true_eq, Bool.and_eq_true, Bool.not_eq_true', decide_eq_false_iff_not, Bool.or_eq_true, Bool.not_eq_eq_eq_not, Bool.not_true, Bool.not_false, beq_iff_eq, Option.bind_some, Bool.not_not, decide_eq_true_eq, Decidable.not_not, and_true, within_eq]
  by_cases hb : 0 ≤ b ∧ b ≤ 65535
  · rw [if_pos (by simp [hb])]
    by_cases hn : 0 ≤ n ∧ n ≤ 65535
    · rw [if_neg (by simp [hn]), if_pos ⟨hb, hn⟩]
      obtain ⟨n, rfl⟩ := Int.eq_ofNat_of_zero_le hn.1
      refine (LOOP_m (fun s => s.1.2.1 = l ∧ s.1.2.2.1 = (l.length : Int) ∧ s.2.2.2.1 = (n : Int) ∧ 0 ≤ s.1.2.2.2 ∧ s.1.2.2.2 ≤ (l.length : Int)) (fun s => l.length - s.1.2.2.2.toNat) (fun s => rightL n s.1.1 (l.drop s.1.2.2.2.toNat)) ?_ ⟨rfl, rfl, rfl, by dsimp only; omega, by dsimp only; omega⟩ (by have := big; dsimp only; omega)).trans (by simp)
      rintro ⟨⟨last, a, m, i⟩, u1, u2, k, u3, u4⟩ ⟨e1, e2, e3, h2, h3⟩
      dsimp only at *
      subst e1; subst e2; subst e3
      obtain ⟨i, rfl⟩ := Int.eq_ofNat_of_zero_le h2
      by_cases hi : (i : Int) < a.length
      · have hlt : i < a.length := by omega
        have hdr : a.drop i = Ty.at (.pr (.int .i64) (.sl (.int .u8))) a (Int.toNat (i : Int)) :: a.drop (i + 1) := tb_drop hlt
        have bad : ¬ (@LT.lt Int _ last (Ty.at (.pr (.int .i64) (.sl (.int .u8))) a (Int.toNat (i : Int))).1 ∧ ¬ (Ty.at (.pr (.int .i64) (.sl (.int .u8))) a (Int.toNat (i : Int))).2.length = 0 ∧ (Ty.at (.pr (.int .i64) (.sl (.int .u8))) a (Int.toNat (i : Int))).2.length = bzI n (Ty.at (.pr (.int .i64) (.sl (.int .u8))) a (Int.toNat (i : Int))).1) → false = rightL n last (a.drop (Int.toNat (i : Int))) := by
          intro h
          rw [Int.toNat_natCast, hdr, rightL_no h]
        rw [if_pos hi, if_pos ⟨h2, hi⟩]
        by_cases c1 : @LE.le Int _ (Ty.at (.pr (.int .i64) (.sl (.int .u8))) a (Int.toNat (i : Int))).1 last
        · rw [if_neg (fun h => h c1)]
          exact StepOK_inr (bad fun h => by omega)
        · rw [if_pos c1]
          by_cases c2 : ((Ty.at (.pr (.int .i64) (.sl (.int .u8))) a (Int.toNat (i : Int))).2.length : Int) = 0
          · rw [if_neg (fun h => h c2)]
            exact StepOK_inr (bad fun h => by omega)
          · rw [if_pos c2, length_eq28 (by omega)]
            simp only [Option.bind_some]
            by_cases c3 : ((Ty.at (.pr (.int .i64) (.sl (.int .u8))) a (Int.toNat (i : Int))).2.length : Int) = ((bzI n (Ty.at (.pr (.int .i64) (.sl (.int .u8))) a (Int.toNat (i : Int))).1 : Nat) : Int)
            · rw [if_neg (fun h => h c3), wrap_i64 (by omega)]
              have e6 : ((i : Int) + 1).toNat = i + 1 := by omega
              refine StepOK_inl ⟨by dsimp only; omega, ⟨rfl, rfl, rfl, by dsimp only; omega, by dsimp only; omega⟩, ?_⟩
              dsimp only
              have hyes : @LT.lt Int _ last (Ty.at (.pr (.int .i64) (.sl (.int .u8))) a (Int.toNat (i : Int))).1 ∧ ¬ (Ty.at (.pr (.int .i64) (.sl (.int .u8))) a (Int.toNat (i : Int))).2.length = 0 ∧ (Ty.at (.pr (.int .i64) (.sl (.int .u8))) a (Int.toNat (i : Int))).2.length = bzI n (Ty.at (.pr (.int .i64) (.sl (.int .u8))) a (Int.toNat (i : Int))).1 := ⟨by omega, by omega, by omega⟩
              rw [e6, Int.toNat_natCast, hdr, rightL_yes hyes]
              rfl
            · rw [if_pos c3]
              exact StepOK_inr (bad fun h => by omega)
      · rw [if_neg hi]
        refine StepOK_inr ?_
        dsimp only
        rw [Int.toNat_natCast, List.drop_of_length_le (by omega)]; rfl
    · rw [if_pos (by simp; omega), if_neg (fun h => hn h.2)]
  · rw [if_neg (by simp; omega), if_neg (fun h => hb h.1)]
theorem rRight28_eq {b bs n sm : Int} {l : List DBk} (hl : l.length ≤ 1000000) : torporref28_Right (b, bs, n, sm, l) = some (RightS b n l) := by
  unfold torporref28_Right torporref28_Right_g RightS
  dsimp only
  simp only [cond_b, decide_eq_true_eq, Bool.and_eq_true, Bool.not_eq_true', decide_eq_false_iff_not, Bool.or_eq_true, Bool.not_eq_eq_eq_not, Bool.not_true, Bool.not_false, beq_iff_eq, Option.bind_some, Bool.not_not, decide_eq_true_eq, Decidable.not_not, and_true]
  by_cases hb : 0 ≤ b ∧ b ≤ 65535
  · rw [if_pos (by omega), if_pos (by omega)]
    by_cases hn : 0 ≤ n ∧ n ≤ 65535
    · rw [if_pos (by omega), if_neg (by omega), if_pos ⟨hb, hn⟩]
      obtain ⟨n, rfl⟩ := Int.eq_ofNat_of_zero_le hn.1
      rw [Int.toNat_natCast]
      refine (LOOP_m (fun s => s.2.2.2.2.2 = l ∧ s.2.2.2.1 = (n : Int) ∧ 0 ≤ s.1 ∧ s.1 ≤ (l.length : Int)) (fun s => l.length - s.1.toNat) (fun s => rightL n (if s.1 = 0 then -1 else (tb l (s.1.toNat - 1)).1) (l.drop s.1.toNat)) ?_ ⟨rfl, rfl, by dsimp only; omega, by dsimp only; omega⟩ (by have := big; dsimp only; omega)).trans (by simp)
      rintro ⟨i, u1, u2, k, u3, a⟩ ⟨e1, e2, h2, h3⟩
      dsimp only at *
      subst e1; subst e2
      obtain ⟨i, rfl⟩ := Int.eq_ofNat_of_zero_le h2
      by_cases hi : (i : Int) < a.length
      · have hlt : i < a.length := by omega
        have hdr : a.drop i = Ty.at (.pr (.int .i64) (.sl (.int .u8))) a (Int.toNat (i : Int)) :: a.drop (i + 1) := tb_drop hlt
        generalize hla : (if (i : Int) = 0 then (-1 : Int) else (tb a (Int.toNat (i : Int) - 1)).1) = last
        have bad : ¬ (@LT.lt Int _ last (Ty.at (.pr (.int .i64) (.sl (.int .u8))) a (Int.toNat (i : Int))).1 ∧ ¬ (Ty.at (.pr (.int .i64) (.sl (.int .u8))) a (Int.toNat (i : Int))).2.length = 0 ∧ (Ty.at (.pr (.int .i64) (.sl (.int .u8))) a (Int.toNat (i : Int))).2.length = bzI n (Ty.at (.pr (.int .i64) (.sl (.int .u8))) a (Int.toNat (i : Int))).1) → false = rightL n (if (i : Int) = 0 then (-1 : Int) else (tb a (Int.toNat (i : Int) - 1)).1) (a.drop (Int.toNat (i : Int))) := by
          intro h
          rw [hla, Int.toNat_natCast, hdr, rightL_no h]
        have hneg : bzI n (Ty.at (.pr (.int .i64) (.sl (.int .u8))) a (Int.toNat (i : Int))).1 ≠ 0 → @LT.lt Int _ (-1) (Ty.at (.pr (.int .i64) (.sl (.int .u8))) a (Int.toNat (i : Int))).1 := by
          intro h
          have h1 : ¬ @LT.lt Int _ (Ty.at (.pr (.int .i64) (.sl (.int .u8))) a (Int.toNat (i : Int))).1 0 := fun hh => h (by unfold bzI; rw [if_pos hh])
          omega
        have tail : ((i : Int) = 0 ∨ @LT.lt Int _ last (Ty.at (.pr (.int .i64) (.sl (.int .u8))) a (Int.toNat (i : Int))).1) → StepOK (fun s : Int × Int × Int × Int × Int × List DBk => s.2.2.2.2.2 = a ∧ s.2.2.2.1 = (n : Int) ∧ 0 ≤ s.1 ∧ s.1 ≤ (a.length : Int)) (fun s => a.length - s.1.toNat) (fun s => rightL n (if s.1 = 0 then -1 else (tb a (s.1.toNat - 1)).1) (a.drop s.1.toNat)) ((i : Int), u1, u2, (n : Int), u3, a)
            (if ¬ ((Ty.at (.pr (.int .i64) (.sl (.int .u8))) a (Int.toNat (i : Int))).2.length : Int) = 0 then (torporref28_size ((n : Int), (Ty.at (.pr (.int .i64) (.sl (.int .u8))) a (Int.toNat (i : Int))).1)).bind fun x => if ¬ ((Ty.at (.pr (.int .i64) (.sl (.int .u8))) a (Int.toNat (i : Int))).2.length : Int) = x then some (.inr false) else some (.inl (IntKind.i64.wrap ((i : Int) + 1), u1, u2, (n : Int), u3, a)) else some (.inr false)) := by
          intro hlo
          by_cases c2 : ((Ty.at (.pr (.int .i64) (.sl (.int .u8))) a (Int.toNat (i : Int))).2.length : Int) = 0
          · rw [if_neg (fun h => h c2)]
            exact StepOK_inr (bad fun h => by omega)
          · rw [if_pos c2, size_eq28 (by omega)]
            simp only [Option.bind_some]
            by_cases c3 : ((Ty.at (.pr (.int .i64) (.sl (.int .u8))) a (Int.toNat (i : Int))).2.length : Int) = ((bzI n (Ty.at (.pr (.int .i64) (.sl (.int .u8))) a (Int.toNat (i : Int))).1 : Nat) : Int)
            · rw [if_neg (fun h => h c3), wrap_i64 (by omega)]
              have e6 : ((i : Int) + 1).toNat = i + 1 := by omega
              have hyes : @LT.lt Int _ last (Ty.at (.pr (.int .i64) (.sl (.int .u8))) a (Int.toNat (i : Int))).1 ∧ ¬ (Ty.at (.pr (.int .i64) (.sl (.int .u8))) a (Int.toNat (i : Int))).2.length = 0 ∧ (Ty.at (.pr (.int .i64) (.sl (.int .u8))) a (Int.toNat (i : Int))).2.length = bzI n (Ty.at (.pr (.int .i64) (.sl (.int .u8))) a (Int.toNat (i : Int))).1 := by
                refine ⟨?_, by omega, by omega⟩
                rcases hlo with h0 | h
                · rw [← hla, if_pos h0]
                  exact hneg (by omega)
                · exact h
              refine StepOK_inl ⟨by dsimp only; omega, ⟨rfl, rfl, by dsimp only; omega, by dsimp only; omega⟩, ?_⟩
              dsimp only
              rw [hla, e6, if_neg (by omega), Nat.add_sub_cancel, Int.toNat_natCast, hdr, rightL_yes hyes]
              rfl
            · rw [if_pos c3]
              exact StepOK_inr (bad fun h => by omega)
        rw [if_pos hi, if_pos ⟨h2, hi⟩]
        by_cases hi0 : (0 : Int) < i
        · have e1 : IntKind.i64.wrap ((i : Int) - 1) = ((i - 1 : Nat) : Int) := by rw [wrap_i64 (by omega)]; omega
          have hL : last = (Ty.at (.pr (.int .i64) (.sl (.int .u8))) a (Int.toNat ((i - 1 : Nat) : Int))).1 := by rw [← hla, if_neg (by omega)]; rfl
          rw [if_pos hi0, e1, if_pos ⟨by omega, by omega⟩]
          by_cases c1 : @LE.le Int _ (Ty.at (.pr (.int .i64) (.sl (.int .u8))) a (Int.toNat (i : Int))).1 last
          · rw [if_neg (fun h => h (by rw [← hL]; exact c1))]
            exact StepOK_inr (bad fun h => by omega)
          · rw [if_pos (by rw [← hL]; exact c1)]
            exact tail (.inr (by omega))
        · rw [if_neg hi0]
          exact tail (.inl (by omega))
      · rw [if_neg hi]
        refine StepOK_inr ?_
        dsimp only
        rw [Int.toNat_natCast, List.drop_of_length_le (by omega)]; rfl
    · rw [if_neg (show ¬ ((0 ≤ b ∧ b ≤ 65535) ∧ 0 ≤ n ∧ n ≤ 65535) from fun h => hn h.2)]
      by_cases hn0 : n < 0
      · rw [if_neg (by omega)]
      · rw [if_pos (by omega), if_pos (by omega)]
  · rw [if_neg (show ¬ ((0 ≤ b ∧ b ≤ 65535) ∧ 0 ≤ n ∧ n ≤ 65535) from fun h => hb h.1)]
    by_cases hb0 : b < 0
    · rw [if_neg (by omega)]
    · rw [if_pos (by omega), if_neg (by omega)]
end Go.AX
end
section
set_option linter.unusedSimpArgs false
set_option linter.unusedVariables false
set_option maxRecDepth 100000
namespace Go.AX
open Go
def fnd : List DBk → Int → Option (List Int)
  | [], _ => none
  | x :: r, a => if x.1 = a then some x.2 else fnd r a
theorem fnd_yes {l : List DBk} {a : Int} : ∀ {k : Nat}, k < l.length → (tb l k).1 = a → (∀ j, j < k → (tb l j).1 ≠ a) → fnd l a = some (tb l k).2 := by
  induction l with
  | nil => intro k h; simp at h
  | cons x r ih =>
    intro k h h1 h2
    cases k with
    | zero =>
      have h1 : x.1 = a := h1
      rw [fnd, if_pos h1]; rfl
    | succ k =>
      have h0 : ¬ x.1 = a := h2 0 (by omega)
      rw [fnd, if_neg h0]
      exact ih (by simpa using h) h1 fun j hj => h2 (j + 1) (by omega)
theorem fnd_no {l : List DBk} {a : Int} (h : ∀ j, j < l.length → (tb l j).1 ≠ a) : fnd l a = none := by
  induction l with
  | nil => rfl
  | cons x r ih =>
    have h0 : ¬ x.1 = a := h 0 (by simp)
    rw [fnd, if_neg h0]
    exact ih fun j hj => h (j + 1) (by simpa using hj)
theorem rfind_eq {b bs n sm : Int} {l : List DBk} (hl : l.length ≤ 1000000) (a : Int) : torporref28_find ((b, bs, n, sm, l), a) = some ((fnd l a).getD []) := by
  unfold torporref28_find torporref28_find_g
  dsimp only
  simp only [cond_b, decide_eq_true_eq, Bool.and_eq_true, Bool.not_eq_true', decide_eq_false_iff_not, Bool.or_eq_true, Bool.not_eq_eq_eq_not, Bool.not_true, Bool.not_false, beq_iff_eq, Option.bind_some, Bool.not_not, decide_eq_true_eq, Decidable.not_not, and_true]
  refine (LOOP_m (fun s => s.1.1 = a ∧ s.2.2.2.2.2 = l ∧ 0 ≤ s.1.2 ∧ s.1.2 ≤ (l.length : Int)) (fun s => l.length - s.1.2.toNat) (fun s => (fnd (l.drop s.1.2.toNat) a).getD []) ?_ ⟨rfl, rfl, by dsimp only; omega, by dsimp only; omega⟩ (by have := big; dsimp only; omega)).trans (by simp)
  rintro ⟨⟨c, i⟩, u1, u2, u3, u4, m⟩ ⟨e1, e2, h2, h3⟩
  dsimp only at *
  subst e1; subst e2
  obtain ⟨i, rfl⟩ := Int.eq_ofNat_of_zero_le h2
  by_cases hi : (i : Int) < m.length
  · have hlt : i < m.length := by omega
    have hdr : m.drop i = tb m i :: m.drop (i + 1) := tb_drop hlt
    rw [if_pos hi, if_pos ⟨h2, hi⟩]
    by_cases hq : (tb m i).1 = c
    · rw [if_pos (show (Ty.at (.pr (.int .i64) (.sl (.int .u8))) m (Int.toNat (i : Int))).1 = c from hq), if_pos ⟨h2, hi⟩]
      refine StepOK_inr ?_
      dsimp only
      rw [Int.toNat_natCast, hdr, fnd, if_pos hq]; rfl
    · rw [if_neg (show ¬ (Ty.at (.pr (.int .i64) (.sl (.int .u8))) m (Int.toNat (i : Int))).1 = c from hq), wrap_i64 (by omega)]
      have e6 : ((i : Int) + 1).toNat = i + 1 := by omega
      refine StepOK_inl ⟨by dsimp only; omega, ⟨rfl, rfl, by dsimp only; omega, by dsimp only; omega⟩, ?_⟩
      dsimp only
      rw [e6, Int.toNat_natCast, hdr, fnd, if_neg hq]
  · rw [if_neg hi]
    refine StepOK_inr ?_
    dsimp only
    rw [Int.toNat_natCast, List.drop_of_length_le (by omega)]; rfl
theorem Compare_eq (a b : Int) : cmp_Compare_int (a, b) = some (if a < b then -1 else if b < a then 1 else 0) := by
  unfold cmp_Compare_int cmp_Compare_int_g cmp_isNaN_int cmp_isNaN_int_g
  simp only [cond_b, decide_eq_true_eq, Bool.and_eq_true, Bool.not_eq_true', decide_eq_false_iff_not, Bool.or_eq_true, Bool.not_eq_eq_eq_not, Bool.not_true, Bool.not_false, beq_iff_eq, Option.bind_some, Bool.not_not, decide_eq_true_eq, Decidable.not_not, and_true, decide_true]
  rw [if_neg (by decide), if_neg (by decide)]
  by_cases h : a < b
  · rw [if_pos h, if_pos h]
  · rw [if_neg h, if_neg h]
    by_cases g : b < a
    · rw [if_pos g, if_pos g]
    · rw [if_neg g, if_neg g]
def Asc (l : List DBk) : Prop := ∀ i j, i < j → j < l.length → (tb l i).1 < (tb l j).1
theorem Asc_of {n : Nat} : ∀ {l : List DBk} {last : Int}, rightL n last l = true → Asc l ∧ ∀ i, i < l.length → last < (tb l i).1
  | [], _, _ => ⟨fun i j _ h => by simp at h, fun i h => by simp at h⟩
  | x :: r, last, h => by
    rw [rightL] at h
    split at h
    · rename_i hc
      obtain ⟨g1, g2⟩ := Asc_of h
      refine ⟨fun i j hij hj => ?_, fun i hi => ?_⟩
      · cases j with
        | zero => omega
        | succ j =>
          cases i with
          | zero => exact g2 j (by simpa using hj)
          | succ i => exact g1 i j (by omega) (by simpa using hj)
      · cases i with
        | zero => exact hc.1
        | succ i => exact Int.lt_trans hc.1 (g2 i (by simpa using hi))
    · cases h
theorem half {i j : Nat} (h : i + j ≤ 1000000000) : IntKind.i64.wrap ((IntKind.u64.wrap (IntKind.i64.wrap ((i : Int) + (j : Int)))).fdiv (2 ^ (min (Int.toNat 1) IntKind.u64.bits))) = (((i + j) / 2 : Nat) : Int) := by
  rw [wrap_i64 (x := (i : Int) + (j : Int)) (by omega), IntKind.wrap_u64, show ((i : Int) + j) % 18446744073709551616 = (i : Int) + j by omega, sh ((i : Int) + j) (min (Int.toNat 1) IntKind.u64.bits) 2 (by decide) (by decide), wrap_i64 (by omega)]
  omega
theorem sfind_eq {b bs n sm : Int} {l : List DBk} (hl : l.length ≤ 1000000) (hA : Asc l) (a : Int) : delta_find ((b, bs, n, sm, l), a) = some (match fnd l a with | some x => (x, true) | none => ([], false)) := by
  have hs : ∃ r, BinarySearch_Block (l, a) = some r ∧ ((∃ k : Nat, r = ((k : Int), true) ∧ k < l.length ∧ (tb l k).1 = a) ∨ (r.2 = false ∧ ∀ j, j < l.length → (tb l j).1 ≠ a)) := by
    unfold BinarySearch_Block BinarySearch_Block_g find_cmp find_cmp_g
    dsimp only
    simp only [cond_b, decide_eq_true_eq, Bool.and_eq_true, Bool.not_eq_true', decide_eq_false_iff_not, Bool.or_eq_true, Bool.not_eq_eq_eq_not, Bool.not_true, Bool.not_false, beq_iff_eq, Option.bind_some, Bool.not_not, decide_eq_true_eq, Decidable.not_not, and_true, Compare_eq]
    have hloop := LOOP_ex (σ := List DBk × Int × Int × Int × Int) (O := (List DBk × Int × Int × Int) ⊕ (Int × Bool))
      (f := fun x => match x with | (x3, x4, x5, x6, x7) => if x6 < x7 then if 0 ≤ (1 : Int) then if 0 ≤ IntKind.i64.wrap ((IntKind.u64.wrap (IntKind.i64.wrap (x6 + x7))).fdiv (2 ^ (min (Int.toNat 1) IntKind.u64.bits))) ∧ IntKind.i64.wrap ((IntKind.u64.wrap (IntKind.i64.wrap (x6 + x7))).fdiv (2 ^ (min (Int.toNat 1) IntKind.u64.bits))) < x3.length then (if (if @LT.lt Int _ (Ty.at (.pr (.int .i64) (.sl (.int .u8))) x3 (IntKind.i64.wrap ((IntKind.u64.wrap (IntKind.i64.wrap (x6 + x7))).fdiv (2 ^ (min (Int.toNat 1) IntKind.u64.bits)))).toNat).1 x4 then (-1 : Int) else if @LT.lt Int _ x4 (Ty.at (.pr (.int .i64) (.sl (.int .u8))) x3 (IntKind.i64.wrap ((IntKind.u64.wrap (IntKind.i64.wrap (x6 + x7))).fdiv (2 ^ (min (Int.toNat 1) IntKind.u64.bits)))).toNat).1 then 1 else 0) < 0 then some (.inl (x3, x4, x5, IntKind.i64.wrap (IntKind.i64.wrap ((IntKind.u64.wrap (IntKind.i64.wrap (x6 + x7))).fdiv (2 ^ (min (Int.toNat 1) IntKind.u64.bits))) + 1), x7)) else some (.inl (x3, x4, x5, x6, IntKind.i64.wrap ((IntKind.u64.wrap (IntKind.i64.wrap (x6 + x7))).fdiv (2 ^ (min (Int.toNat 1) IntKind.u64.bits)))))) else none else none else some (.inr (.inl (x3, x4, x5, x6))))
      (s := (l, a, (l.length : Int), 0, (l.length : Int)))
      (fun s => s.1 = l ∧ s.2.1 = a ∧ s.2.2.1 = (l.length : Int) ∧ 0 ≤ s.2.2.2.1 ∧ s.2.2.2.1 ≤ s.2.2.2.2 ∧ s.2.2.2.2 ≤ (l.length : Int) ∧ (∀ k : Nat, (k : Int) < s.2.2.2.1 → (tb l k).1 < a) ∧ ∀ k : Nat, s.2.2.2.2 ≤ (k : Int) → k < l.length → a ≤ (tb l k).1)
      (fun s => (s.2.2.2.2 - s.2.2.2.1).toNat)
      (fun o => ∃ i : Nat, o = .inl (l, a, (l.length : Int), (i : Int)) ∧ i ≤ l.length ∧ (∀ k : Nat, k < i → (tb l k).1 < a) ∧ ∀ k : Nat, i ≤ k → k < l.length → a ≤ (tb l k).1)
      ?_ ⟨rfl, rfl, rfl, by dsimp only; omega, by dsimp only; omega, by dsimp only; omega, fun k h => by dsimp only at h; omega, fun k h h' => by dsimp only at h; omega⟩ (by have := big; dsimp only; omega)
    · obtain ⟨o, ho, i, rfl, hi, g1, g2⟩ := hloop
      rw [ho]
      simp only [Option.bind_some]
      by_cases hil : (i : Int) < l.length
      · rw [if_pos hil, if_pos ⟨by omega, hil⟩]
        refine ⟨_, rfl, ?_⟩
        have hge := g2 i (Nat.le_refl _) (by omega)
        by_cases he : (tb l i).1 = a
        · refine .inl ⟨i, ?_, by omega, he⟩
          have : ((if @LT.lt Int _ (Ty.at (.pr (.int .i64) (.sl (.int .u8))) l (Int.toNat (i : Int))).1 a then (-1 : Int) else if @LT.lt Int _ a (Ty.at (.pr (.int .i64) (.sl (.int .u8))) l (Int.toNat (i : Int))).1 then 1 else 0) = 0) := by
            have n1 : ¬ @LT.lt Int _ (Ty.at (.pr (.int .i64) (.sl (.int .u8))) l (Int.toNat (i : Int))).1 a := show ¬ @LT.lt Int _ (tb l i).1 a by omega
            have n2 : ¬ @LT.lt Int _ a (Ty.at (.pr (.int .i64) (.sl (.int .u8))) l (Int.toNat (i : Int))).1 := show ¬ @LT.lt Int _ a (tb l i).1 by omega
            rw [if_neg n1, if_neg n2]
          rw [decide_eq_true this]
        · refine .inr ⟨?_, fun j hj => ?_⟩
          · have : ¬ ((if @LT.lt Int _ (Ty.at (.pr (.int .i64) (.sl (.int .u8))) l (Int.toNat (i : Int))).1 a then (-1 : Int) else if @LT.lt Int _ a (Ty.at (.pr (.int .i64) (.sl (.int .u8))) l (Int.toNat (i : Int))).1 then 1 else 0) = 0) := by
              have n1 : ¬ @LT.lt Int _ (Ty.at (.pr (.int .i64) (.sl (.int .u8))) l (Int.toNat (i : Int))).1 a := show ¬ @LT.lt Int _ (tb l i).1 a by omega
              have n2 : @LT.lt Int _ a (Ty.at (.pr (.int .i64) (.sl (.int .u8))) l (Int.toNat (i : Int))).1 := show @LT.lt Int _ a (tb l i).1 by omega
              rw [if_neg n1, if_pos n2]
              decide
            exact decide_eq_false this
          · by_cases hji : j < i
            · have := g1 j hji; omega
            · by_cases hje : j = i
              · subst hje; exact he
              · have := hA i j (by omega) hj; omega
      · rw [if_neg hil]
        refine ⟨_, rfl, .inr ⟨rfl, fun j hj => ?_⟩⟩
        have := g1 j (by omega); omega
    · rintro ⟨m, c, u, i, j⟩ ⟨e1, e2, e3, h1, h2, h3, g1, g2⟩
      dsimp only at *
      subst e1; subst e2; subst e3
      obtain ⟨i, rfl⟩ := Int.eq_ofNat_of_zero_le h1
      obtain ⟨j, rfl⟩ := Int.eq_ofNat_of_zero_le (show 0 ≤ j by omega)
      by_cases hij : (i : Int) < j
      · refine .inr ?_
        rw [half (by omega), if_pos hij, if_pos (by decide), if_pos ⟨by omega, by omega⟩]
        by_cases hc : (tb m ((i + j) / 2)).1 < c
        · refine ⟨(m, c, (m.length : Int), (((i + j) / 2 + 1 : Nat) : Int), (j : Int)), ?_, ?_, ?_⟩
          · rw [if_pos (show @LT.lt Int _ (Ty.at (.pr (.int .i64) (.sl (.int .u8))) m (Int.toNat (((i + j) / 2 : Nat) : Int))).1 c from hc), if_pos (by decide), wrap_i64 (by omega)]
            rfl
          · dsimp only; omega
          · refine ⟨rfl, rfl, rfl, by dsimp only; omega, by dsimp only; omega, by dsimp only; omega, fun k hk => ?_, g2⟩
            dsimp only at hk
            by_cases hke : k = (i + j) / 2
            · rw [hke]; exact hc
            · exact Int.lt_trans (hA k ((i + j) / 2) (by omega) (by omega)) hc
        · refine ⟨(m, c, (m.length : Int), (i : Int), (((i + j) / 2 : Nat) : Int)), ?_, ?_, ?_⟩
          · rw [if_neg (show ¬ @LT.lt Int _ (Ty.at (.pr (.int .i64) (.sl (.int .u8))) m (Int.toNat (((i + j) / 2 : Nat) : Int))).1 c from hc), if_neg (by split <;> decide)]
          · dsimp only; omega
          · refine ⟨rfl, rfl, rfl, by dsimp only; omega, by dsimp only; omega, by dsimp only; omega, g1, fun k hk hkl => ?_⟩
            dsimp only at hk
            by_cases hke : k = (i + j) / 2
            · rw [hke]; omega
            · have := hA ((i + j) / 2) k (by omega) hkl; omega
      · refine .inl ⟨_, if_neg hij, i, rfl, by omega, fun k hk => g1 k (by omega), fun k hk hkl => g2 k (by omega) hkl⟩
  unfold delta_find delta_find_g
  dsimp only
  obtain ⟨r, hr, ⟨k, rfl, hk, he⟩ | ⟨hf, hno⟩⟩ := hs
  · rw [hr]
    simp only [cond_b, decide_eq_true_eq, Bool.and_eq_true, Bool.not_eq_true', decide_eq_false_iff_not, Bool.or_eq_true, Bool.not_eq_eq_eq_not, Bool.not_true, Bool.not_false, beq_iff_eq, Option.bind_some, Bool.not_not, decide_eq_true_eq, Decidable.not_not, and_true]
    have hfy := fnd_yes hk he fun j hj => by have := hA j k hj hk; omega
    rw [if_neg (by decide), if_pos ⟨by omega, by omega⟩, hfy]
    rfl
  · obtain ⟨r1, r2⟩ := r
    dsimp only at hf
    subst hf
    rw [hr]
    simp only [cond_b, decide_eq_true_eq, Bool.and_eq_true, Bool.not_eq_true', decide_eq_false_iff_not, Bool.or_eq_true, Bool.not_eq_eq_eq_not, Bool.not_true, Bool.not_false, beq_iff_eq, Option.bind_some, Bool.not_not, decide_eq_true_eq, Decidable.not_not, and_true]
    rw [if_pos (by decide), fnd_no hno]
end Go.AX
end
section
set_option linter.unusedSimpArgs false
set_option linter.unusedVariables false
set_option maxRecDepth 100000
namespace Go.AX
open Go
theorem bind_loop {α β : Type} {x : Option α} {r : α} {k : α → Option β} {y : Option β} (h : x = some r) (h2 : k r = y) : x.bind k = y := by rw [h]; exact h2
def nb (n : Nat) : Nat := (n + 15) / 16
theorem blocks_nb {n : Nat} (h : n ≤ 1000000) : delta_blocks (n : Int) = some ((nb n : Nat) : Int) := by unfold nb; exact blocks_eq h
def diffL (a b : List Int) : Nat → Nat → List DBk
  | _, 0 => []
  | i, k + 1 => if bl b i = bl a i then diffL a b (i + 1) k else ((i : Int), bl b i) :: diffL a b (i + 1) k
def BytL (l : List DBk) : Prop := ∀ x ∈ l, Byt x.2
theorem nb_iff {n i : Nat} (h : n ≤ 1000000) : (i : Int) < ((nb n : Nat) : Int) ↔ 16 * i < n := by unfold nb; omega
theorem sDiff_eq {a b : List Int} (ha : Byt a) (hb : Byt b) (hla : a.length ≤ 65535) (hlb : b.length ≤ 65535) : delta_Diff (a, b) = some ((((a.length : Int), cs a, (b.length : Int), cs b), 0), diffL a b 0 (nb b.length)) := by
  unfold delta_Diff delta_Diff_g
  dsimp only
  simp only [cond_b, decide_eq_true_eq, Bool.and_eq_true, Bool.not_eq_true', decide_eq_false_iff_not, Bool.or_eq_true, Bool.not_eq_eq_eq_not, Bool.not_true, Bool.not_false, beq_iff_eq, Option.bind_some, Bool.not_not, decide_eq_true_eq, Decidable.not_not, and_true, within_eq]
  rw [if_pos (by simp; omega), if_neg (by simp; omega), show crc_Sum a = some (cs a) from crcG_eq ha (by omega), show crc_Sum b = some (cs b) from crcG_eq hb (by omega), blocks_nb (by omega)]
  simp only [Option.bind_some]
  generalize cs a = ca
  generalize cs b = cb
  have hN4 : nb b.length ≤ 4096 := by unfold nb; omega
  have hiff0 : ∀ i : Nat, (i : Int) < ((nb b.length : Nat) : Int) ↔ 16 * i < b.length := fun i => nb_iff (by omega)
  generalize nb b.length = N at *
  refine Eq.trans (LOOP_m (fun s => s.1.1 = a ∧ s.1.2.1 = b ∧ s.1.2.2.1 = (N : Int) ∧ 0 ≤ s.1.2.2.2 ∧ s.1.2.2.2 ≤ (N : Int) ∧ s.2.2.1 = ((a.length : Int), ca, (b.length : Int), cb) ∧ (s.2.2.2.length : Int) ≤ s.1.2.2.2) (fun s => N - s.1.2.2.2.toNat) (fun s => ((((a.length : Int), ca, (b.length : Int), cb), 0), s.2.2.2 ++ diffL a b s.1.2.2.2.toNat (N - s.1.2.2.2.toNat))) ?_ ⟨rfl, rfl, rfl, by dsimp only; omega, by dsimp only; omega, rfl, by dsimp only; simp⟩ (by have := big; dsimp only; omega)) (by simp)
  rintro ⟨⟨p, q, n, i⟩, ⟨u1, u2, u3, u4⟩, ⟨v1, v2, v3, v4⟩, acc⟩ ⟨e1, e2, e3, h2, h3, e4, h5⟩
  dsimp only at *
  subst e1; subst e2; subst e3
  simp only [Prod.mk.injEq] at e4
  obtain ⟨rfl, rfl, rfl, rfl⟩ := e4
  obtain ⟨i, rfl⟩ := Int.eq_ofNat_of_zero_le h2
  
  by_cases hi : (i : Int) < (N : Int)
  · have hk : N - i = (N - (i + 1)) + 1 := by omega
    rw [if_pos hi, block_eq28 (by omega), block_eq28 (by omega)]
    have hbl : (bl q i).length ≤ 16 := by rw [bl_len]; unfold bz; omega
    simp only [Option.bind_some]
    rw [Equal_eq (by omega)]
    simp only [Option.bind_some]
    have e6 : ((i : Int) + 1).toNat = i + 1 := by omega
    by_cases hq : bl q i = bl p i
    · rw [if_neg (by simp [hq]), wrap_i64 (by omega)]
      refine StepOK_inl ⟨by dsimp only; omega, ⟨rfl, rfl, rfl, by dsimp only; omega, by dsimp only; omega, rfl, by dsimp only; omega⟩, ?_⟩
      dsimp only
      rw [e6, Int.toNat_natCast, hk, diffL, if_pos hq]
    · rw [if_pos (by simp [hq]), Clone_eq (by omega)]
      simp only [Option.bind_some]
      rw [if_pos (by simp only [List.length_cons, List.length_nil]; omega), wrap_i64 (by omega)]
      refine StepOK_inl ⟨by dsimp only; omega, ⟨rfl, rfl, rfl, by dsimp only; omega, by dsimp only; omega, rfl, by dsimp only; simp only [List.length_append, List.length_cons, List.length_nil]; omega⟩, ?_⟩
      dsimp only
      rw [e6, Int.toNat_natCast, hk, diffL, if_neg hq, List.append_assoc]; rfl
  · rw [if_neg hi]
    refine StepOK_inr ?_
    dsimp only
    rw [Int.toNat_natCast, show N - i = 0 by omega, diffL, List.append_nil]
end Go.AX
end
section
set_option linter.unusedSimpArgs false
set_option linter.unusedVariables false
set_option maxRecDepth 100000
namespace Go.AX
open Go
def pk (b : List Int) (l : List DBk) (i : Nat) : List Int := match fnd l (i : Int) with | some x => x | none => bl b i
def appL (b : List Int) (l : List DBk) (n : Nat) : Nat → Nat → List Int → Option (List Int)
  | _, 0, out => some out
  | i, k + 1, out => if (pk b l i).length = bz n i then appL b l n (i + 1) k (out ++ pk b l i) else none
def applyS (b : List Int) (bln bs n sm : Int) (l : List DBk) : Int × List Int :=
  if RightS bln n l = true then (if (b.length : Int) = bln ∧ cs b = bs then (match appL b l n.toNat 0 (nb n.toNat) [] with | none => (3, []) | some o => if cs o = sm then (0, o) else (5, [])) else (9, [])) else (3, [])
theorem fnd_mem {l : List DBk} {a : Int} {x : List Int} (h : fnd l a = some x) : (a, x) ∈ l := by
  induction l with
  | nil => cases h
  | cons y r ih =>
    rw [fnd] at h
    by_cases hq : y.1 = a
    · rw [if_pos hq] at h
      cases h
      rw [← hq]; simp
    · rw [if_neg hq] at h
      simp [ih h]
theorem right_mem {n : Nat} : ∀ {l : List DBk} {last : Int}, rightL n last l = true → ∀ x ∈ l, ¬ x.2.length = 0 ∧ x.2.length = bzI n x.1
  | [], _, _, x, hx => by cases hx
  | y :: r, last, h, x, hx => by
    rw [rightL] at h
    split at h
    · rename_i hc
      rcases List.mem_cons.1 hx with rfl | hx
      · exact hc.2
      · exact right_mem h x hx
    · cases h
theorem pk_byt {b : List Int} {l : List DBk} (hb : Byt b) (hl : BytL l) (i : Nat) : Byt (pk b l i) := by
  unfold pk
  cases h : fnd l (i : Int) with
  | none => exact bl_byt hb i
  | some x => exact hl _ (fnd_mem h)
theorem appL_byt {b : List Int} {l : List DBk} {n : Nat} (hb : Byt b) (hl : BytL l) : ∀ {k i : Nat} {out o : List Int}, Byt out → appL b l n i k out = some o → Byt o ∧ o.length ≤ out.length + 16 * k
  | 0, i, out, o, ho, h => by cases h; exact ⟨ho, by omega⟩
  | k + 1, i, out, o, ho, h => by
    rw [appL] at h
    split at h
    · rename_i hc
      obtain ⟨g1, g2⟩ := appL_byt hb hl (ho.app (pk_byt hb hl i)) h
      rw [List.length_append, hc] at g2
      refine ⟨g1, ?_⟩
      have : bz n i ≤ 16 := by unfold bz; omega
      omega
    · cases h
theorem RightS_ok {b n : Int} {l : List DBk} (h : RightS b n l = true) : (0 ≤ b ∧ b ≤ 65535) ∧ (0 ≤ n ∧ n ≤ 65535) ∧ rightL n.toNat (-1) l = true := by
  unfold RightS at h
  split at h
  · rename_i hc
    exact ⟨hc.1, hc.2, h⟩
  · cases h
theorem rApply_eq {b : List Int} {bln bs n sm : Int} {l : List DBk} (hb : Byt b) (hlb : b.length ≤ 70000) (hl : BytL l) (hll : l.length ≤ 1000000) : torporref28_Apply (b, bln, bs, n, sm, l) = some (applyS b bln bs n sm l) := by
  unfold torporref28_Apply torporref28_Apply_g applyS
  dsimp only
  simp only [cond_b, decide_eq_true_eq, Bool.and_eq_true, Bool.not_eq_true', decide_eq_false_iff_not, Bool.or_eq_true, Bool.not_eq_eq_eq_not, Bool.not_true, Bool.not_false, beq_iff_eq, Option.bind_some, Bool.not_not, decide_eq_true_eq, Decidable.not_not, and_true, rRight28_eq hll]
  by_cases hR : RightS bln n l = true
  · obtain ⟨_, hn, hrl⟩ := RightS_ok hR
    rw [if_neg (by rw [hR]; decide), if_pos hR]
    by_cases h1 : (b.length : Int) = bln
    · rw [if_pos h1, rSum_eq hb (by omega)]
      simp only [Option.bind_some]
      by_cases h2 : cs b = bs
      · rw [if_neg (fun h => h h2), if_pos ⟨h1, h2⟩]
        obtain ⟨n, rfl⟩ := Int.eq_ofNat_of_zero_le hn.1
        simp only [Int.toNat_natCast] at *
        have hnb : nb n ≤ 4096 := by unfold nb; omega
        have hiff0 : ∀ i : Nat, (i : Int) < ((nb n : Nat) : Int) ↔ 16 * i < n := fun i => nb_iff (by omega)
        have hn7 : n ≤ 70000 := by omega
        generalize cs b = cb at *
        generalize nb n = N at *
        refine bind_loop (LOOP_m (fun s => s.1.1 = b ∧ 0 ≤ s.1.2 ∧ s.1.2 ≤ (N : Int) ∧ s.2.1 = (bln, bs, (n : Int), sm, l) ∧ (s.2.2.length : Int) ≤ 16 * s.1.2) (fun s => N - s.1.2.toNat) (fun s => match appL b l n s.1.2.toNat (N - s.1.2.toNat) s.2.2 with | none => Sum.inr (3, []) | some o => .inl ((bln, bs, (n : Int), sm, l), o)) ?_ ⟨rfl, by dsimp only; omega, by dsimp only; omega, rfl, by dsimp only; simp⟩ (by have := big; dsimp only; omega)) ?_
        · rintro ⟨⟨c, i⟩, ⟨w1, w2, w3, w4, w5⟩, out⟩ ⟨e1, h2', h3, e2, h5⟩
          dsimp only at *
          subst e1
          simp only [Prod.mk.injEq] at e2
          obtain ⟨rfl, rfl, rfl, rfl, rfl⟩ := e2
          obtain ⟨i, rfl⟩ := Int.eq_ofNat_of_zero_le h2'
          have hiff := hiff0 i
          rw [wrap_i64 (x := 16 * (i : Int)) (by omega)]
          by_cases hi : (i : Int) < (N : Int)
          · have hk : N - i = (N - (i + 1)) + 1 := by omega
            have e6 : ((i : Int) + 1).toNat = i + 1 := by omega
            have hmid : ((if ((((fnd w5 (i : Int)).getD []).length : Int) = 0) then (torporref28_Block (c, (i : Int))).bind fun x18 => some (Sum.inl ((c, (i : Int), x18), (w1, w2, (n : Int), w4, w5), out)) else some (Sum.inl ((c, (i : Int), (fnd w5 (i : Int)).getD []), (w1, w2, (n : Int), w4, w5), out))) : Option (((List Int × Int × List Int) × (Int × Int × Int × Int × List DBk) × List Int) ⊕ (((List Int × Int) × (Int × Int × Int × Int × List DBk) × List Int) ⊕ (((Int × Int × Int × Int × List DBk) × List Int) ⊕ (Int × List Int))))) = some (.inl ((c, (i : Int), pk c w5 i), (w1, w2, (n : Int), w4, w5), out)) := by
              unfold pk
              cases hf : fnd w5 (i : Int) with
              | none =>
                simp only [Option.getD_none, List.length_nil]
                rw [if_pos (by decide), Block_eq28 (by omega), if_neg (by omega), Int.toNat_natCast]; rfl
              | some x =>
                have := (right_mem hrl _ (fnd_mem hf)).1
                simp only [Option.getD_some]
                rw [if_neg (by dsimp only at this; omega)]
            rw [if_pos (by omega), rfind_eq hll]
            simp only [Option.bind_some]
            rw [hmid]
            simp only [Option.bind_some, size_eq28 (show n ≤ 70000 by omega)]
            have hz : bzI n (i : Int) = bz n i := by unfold bzI; rw [if_neg (by omega), Int.toNat_natCast]
            rw [hz]
            by_cases hc : (pk c w5 i).length = bz n i
            · have hbz : bz n i ≤ 16 := by unfold bz; omega
              rw [if_neg (fun h => h (by omega)), if_pos (by omega), wrap_i64 (by omega)]
              refine StepOK_inl ⟨by dsimp only; omega, ⟨rfl, by dsimp only; omega, by dsimp only; omega, rfl, by dsimp only; rw [List.length_append]; omega⟩, ?_⟩
              dsimp only
              rw [e6, Int.toNat_natCast, hk, appL, if_pos hc]
            · rw [if_pos (by omega)]
              refine StepOK_inr ?_
              dsimp only
              rw [Int.toNat_natCast, hk, appL, if_neg hc]
          · rw [if_neg (by omega)]
            refine StepOK_inr ?_
            dsimp only
            rw [Int.toNat_natCast, show N - i = 0 by omega, appL]
        · simp only [Int.toNat_zero, Nat.sub_zero]
          cases ho : appL b l n 0 (N) [] with
          | none => rfl
          | some o =>
            obtain ⟨g1, g2⟩ := appL_byt hb hl (fun x hx => by cases hx) ho
            rw [List.length_nil] at g2
            simp only [rSum_eq g1 (by omega), Option.bind_some]
            by_cases h3 : cs o = sm
            · rw [if_neg (fun h => h h3), if_pos h3]
            · rw [if_pos h3, if_neg h3]
      · rw [if_pos h2, if_neg (fun h => h2 h.2)]
    · rw [if_neg h1, if_neg (fun h => h1 h.1)]
  · rw [if_pos (by cases h : RightS bln n l <;> simp_all), if_neg hR]
end Go.AX
end
section
set_option linter.unusedSimpArgs false
set_option linter.unusedVariables false
set_option maxRecDepth 100000
namespace Go.AX
open Go
theorem fnd_diff_lt {a b : List Int} : ∀ {k i j : Nat}, j < i → fnd (diffL a b i k) (j : Int) = none
  | 0, i, j, h => rfl
  | k + 1, i, j, h => by
    rw [diffL]
    split
    · exact fnd_diff_lt (by omega)
    · rw [fnd, if_neg (by dsimp only; omega)]; exact fnd_diff_lt (by omega)
theorem fnd_diff {a b : List Int} : ∀ {k i j : Nat}, i ≤ j → j < i + k → fnd (diffL a b i k) (j : Int) = if bl b j = bl a j then none else some (bl b j)
  | 0, i, j, h, g => by omega
  | k + 1, i, j, h, g => by
    rw [diffL]
    by_cases hj : j = i
    · subst hj
      split
      · exact fnd_diff_lt (by omega)
      · rw [fnd, if_pos rfl]
    · split
      · exact fnd_diff (by omega) (by omega)
      · rw [fnd, if_neg (by dsimp only; omega)]; exact fnd_diff (by omega) (by omega)
theorem pk_diff {a b : List Int} {k j : Nat} (h : j < k) : pk a (diffL a b 0 k) j = bl b j := by
  unfold pk
  rw [fnd_diff (by omega) (by omega)]
  by_cases hq : bl b j = bl a j
  · rw [if_pos hq]; exact hq.symm
  · rw [if_neg hq]
theorem bl_split (c : List Int) (i : Nat) : bl c i ++ c.drop (16 * (i + 1)) = c.drop (16 * i) := by
  unfold bl
  rw [show 16 * (i + 1) = 16 * i + 16 by omega, ← List.drop_drop, List.take_append_drop]
theorem appL_of {b c : List Int} {l : List DBk} : ∀ {k i : Nat} {out : List Int}, (∀ j, i ≤ j → j < i + k → pk b l j = bl c j) → c.length ≤ 16 * (i + k) → appL b l c.length i k out = some (out ++ c.drop (16 * i))
  | 0, i, out, h, hk => by rw [appL, List.drop_of_length_le (by omega), List.append_nil]
  | k + 1, i, out, h, hk => by
    rw [appL, h i (by omega) (by omega), if_pos bl_len, appL_of (fun j h1 h2 => h j (by omega) (by omega)) (by omega), List.append_assoc, bl_split]
theorem nb_ge (n : Nat) : n ≤ 16 * nb n := by unfold nb; omega
theorem nb_lt {n i : Nat} : i < nb n ↔ 16 * i < n := by unfold nb; omega
theorem appL_diff {a b : List Int} : appL a (diffL a b 0 (nb b.length)) b.length 0 (nb b.length) [] = some b := by
  rw [appL_of (c := b) (fun j _ h => pk_diff (by omega)) (by have := nb_ge b.length; omega)]
  simp
theorem bzI_nat {n i : Nat} : bzI n (i : Int) = bz n i := by unfold bzI; rw [if_neg (by omega), Int.toNat_natCast]
theorem right_diff {a b : List Int} : ∀ {k i : Nat} {last : Int}, last < (i : Int) → i + k ≤ nb b.length → rightL b.length last (diffL a b i k) = true
  | 0, i, last, h, hk => rfl
  | k + 1, i, last, h, hk => by
    rw [diffL]
    split
    · exact right_diff (by omega) (by omega)
    · have h16 : 16 * i < b.length := nb_lt.1 (by omega)
      have hz : bz b.length i ≠ 0 := by unfold bz; omega
      rw [rightL, if_pos ⟨h, by rw [bl_len]; exact hz, by rw [bl_len, bzI_nat]⟩]
      exact right_diff (by dsimp only; omega) (by omega)
def cpx (a b : List DBk) (n j : Nat) : Option (List Int) := match fnd b (j : Int) with
  | some x => some x
  | none => match fnd a (j : Int) with | some x => if x.length = bz n j then some x else none | none => none
def compL (a b : List DBk) (n : Nat) : Nat → Nat → List DBk
  | _, 0 => []
  | i, k + 1 => match cpx a b n i with | some x => ((i : Int), x) :: compL a b n (i + 1) k | none => compL a b n (i + 1) k
theorem fnd_comp_lt {a b : List DBk} {n : Nat} : ∀ {k i j : Nat}, j < i → fnd (compL a b n i k) (j : Int) = none
  | 0, i, j, h => rfl
  | k + 1, i, j, h => by
    rw [compL]
    split
    · rw [fnd, if_neg (by dsimp only; omega)]; exact fnd_comp_lt (by omega)
    · exact fnd_comp_lt (by omega)
theorem fnd_comp {a b : List DBk} {n : Nat} : ∀ {k i j : Nat}, i ≤ j → j < i + k → fnd (compL a b n i k) (j : Int) = cpx a b n j
  | 0, i, j, h, g => by omega
  | k + 1, i, j, h, g => by
    rw [compL]
    by_cases hj : j = i
    · subst hj
      cases hc : cpx a b n j with
      | some x => dsimp only; rw [fnd, if_pos rfl]
      | none => dsimp only; exact fnd_comp_lt (by omega)
    · split
      · rw [fnd, if_neg (by dsimp only; omega)]; exact fnd_comp (by omega) (by omega)
      · exact fnd_comp (by omega) (by omega)
theorem cpx_ok {a b : List DBk} {n j : Nat} {x : List Int} (hb : ∀ x ∈ b, ¬ x.2.length = 0 ∧ x.2.length = bzI n x.1) (h : cpx a b n j = some x) : x.length = bz n j := by
  unfold cpx at h
  split at h
  · rename_i y hy
    cases h
    have := (hb _ (fnd_mem hy)).2
    dsimp only at this
    rw [this, bzI_nat]
  · split at h
    · split at h
      · rename_i hz
        cases h; exact hz
      · cases h
    · cases h
theorem right_comp {a b : List DBk} {n : Nat} (hb : ∀ x ∈ b, ¬ x.2.length = 0 ∧ x.2.length = bzI n x.1) : ∀ {k i : Nat} {last : Int}, last < (i : Int) → i + k ≤ nb n → rightL n last (compL a b n i k) = true
  | 0, i, last, h, hk => rfl
  | k + 1, i, last, h, hk => by
    rw [compL]
    have h16 : 16 * i < n := nb_lt.1 (by omega)
    have hz : bz n i ≠ 0 := by unfold bz; omega
    cases hc : cpx a b n i with
    | none => dsimp only; exact right_comp hb (by omega) (by omega)
    | some x =>
      dsimp only
      have hx := cpx_ok hb hc
      rw [rightL, if_pos ⟨h, by dsimp only; omega, by dsimp only; rw [hx, bzI_nat]⟩]
      exact right_comp hb (by dsimp only; omega) (by omega)
theorem appL_some {b : List Int} {l : List DBk} {n : Nat} : ∀ {k i : Nat} {out o : List Int}, i + k = nb n → appL b l n i k out = some o → ∃ t, o = out ++ t ∧ t.length = n - 16 * i ∧ ∀ j, j < k → bl t j = pk b l (i + j)
  | 0, i, out, o, hk, h => by
    cases h
    exact ⟨[], by simp, by have := nb_ge n; simp; omega, fun j hj => by omega⟩
  | k + 1, i, out, o, hk, h => by
    rw [appL] at h
    split at h
    · rename_i hc
      obtain ⟨t, h1, h2, h3⟩ := appL_some (by omega) h
      refine ⟨pk b l i ++ t, by rw [h1, List.append_assoc], ?_, ?_⟩
      · rw [List.length_append, hc, h2]; unfold bz; omega
      · intro j hj
        cases j with
        | zero =>
          unfold bl
          rw [Nat.mul_zero, List.drop_zero, Nat.add_zero]
          by_cases hf : (pk b l i).length = 16
          · rw [← hf, List.take_left]
          · have ht : t.length = 0 := by unfold bz at hc; omega
            rw [List.eq_nil_of_length_eq_zero ht, List.append_nil, List.take_of_length_le (by unfold bz at hc; omega)]
        | succ j =>
          have h16 : (pk b l i).length = 16 := by
            have := nb_lt (n := n) (i := i + (j + 1))
            unfold bz at hc; omega
          have := h3 j (by omega)
          rw [show i + (j + 1) = i + 1 + j by omega, ← this]
          unfold bl
          rw [show 16 * (j + 1) = (pk b l i).length + 16 * j by omega, ← List.drop_drop, List.drop_left]
    · cases h
theorem appL_comp {b o : List Int} {c d : List DBk} {n1 n2 : Nat} (hc : ∀ x ∈ c, ¬ x.2.length = 0 ∧ x.2.length = bzI n1 x.1) (ho : o.length = n1) (hbl : ∀ j, j < nb n1 → bl o j = pk b c j) :
    ∀ {k i : Nat} {out r : List Int}, i + k = nb n2 → appL o d n2 i k out = some r → appL b (compL c d n2 0 (nb n2)) n2 i k out = some r
  | 0, i, out, r, hk, h => h
  | k + 1, i, out, r, hk, h => by
    rw [appL] at h ⊢
    have h16 : 16 * i < n2 := nb_lt.1 (by omega)
    have hz : bz n2 i ≠ 0 := by unfold bz; omega
    split at h
    · rename_i hl
      have hp : pk b (compL c d n2 0 (nb n2)) i = pk o d i := by
        unfold pk at hl ⊢
        rw [fnd_comp (by omega) (by omega)]
        unfold cpx
        cases hd : fnd d (i : Int) with
        | some x => rfl
        | none =>
          rw [hd] at hl
          dsimp only at hl ⊢
          have hi1 : i < nb n1 := nb_lt.2 (by
            rw [bl_len] at hl
            unfold bz at hl hz; omega)
          have hbi := hbl i hi1
          unfold pk at hbi
          cases hci : fnd c (i : Int) with
          | none => rw [hci] at hbi; dsimp only at hbi ⊢; exact hbi.symm
          | some x =>
            rw [hci] at hbi; dsimp only at hbi ⊢
            rw [hbi] at hl ⊢
            rw [if_pos hl]
      rw [hp, if_pos hl]
      exact appL_comp hc ho hbl (by omega) h
    · cases h
end Go.AX
end
section
set_option linter.unusedSimpArgs false
set_option linter.unusedVariables false
set_option maxRecDepth 100000
namespace Go.AX
open Go
theorem sApply_eq {b : List Int} {bln bs n sm : Int} {l : List DBk} (hb : Byt b) (hlb : b.length ≤ 70000) (hl : BytL l) (hll : l.length ≤ 1000000) : delta_Apply (b, bln, bs, n, sm, l) = some (applyS b bln bs n sm l) := by
  unfold delta_Apply delta_Apply_g applyS
  dsimp only
  simp only [cond_b, decide_eq_true_eq, Bool.and_eq_true, Bool.not_eq_true', decide_eq_false_iff_not, Bool.or_eq_true, Bool.not_eq_eq_eq_not, Bool.not_true, Bool.not_false, beq_iff_eq, Option.bind_some, Bool.not_not, decide_eq_true_eq, Decidable.not_not, and_true, sRight_eq hll]
  by_cases hR : RightS bln n l = true
  · obtain ⟨_, hn, hrl⟩ := RightS_ok hR
    have hA := (Asc_of hrl).1
    rw [if_neg (by rw [hR]; decide), if_pos hR]
    by_cases h1 : (b.length : Int) = bln
    · rw [if_pos h1, show crc_Sum b = some (cs b) from crcG_eq hb (by omega)]
      simp only [Option.bind_some]
      by_cases h2 : cs b = bs
      · rw [if_neg (fun h => h h2), if_pos ⟨h1, h2⟩]
        obtain ⟨n, rfl⟩ := Int.eq_ofNat_of_zero_le hn.1
        rw [blocks_nb (by omega)]
        simp only [Int.toNat_natCast, Option.bind_some] at *
        have hnb : nb n ≤ 4096 := by unfold nb; omega
        have hn7 : n ≤ 70000 := by omega
        generalize cs b = cb at *
        generalize nb n = N at *
        refine bind_loop (LOOP_m (fun s => s.1.1 = b ∧ s.1.2.1 = (N : Int) ∧ 0 ≤ s.1.2.2 ∧ s.1.2.2 ≤ (N : Int) ∧ s.2.1 = (bln, bs, (n : Int), sm, l) ∧ (s.2.2.length : Int) ≤ 16 * s.1.2.2) (fun s => N - s.1.2.2.toNat) (fun s => match appL b l n s.1.2.2.toNat (N - s.1.2.2.toNat) s.2.2 with | none => Sum.inr (3, []) | some o => .inl ((bln, bs, (n : Int), sm, l), o)) ?_ ⟨rfl, rfl, by dsimp only; omega, by dsimp only; omega, rfl, by dsimp only; simp⟩ (by have := big; dsimp only; omega)) ?_
        · rintro ⟨⟨c, n0, i⟩, ⟨w1, w2, w3, w4, w5⟩, out⟩ ⟨e1, e0, h2', h3, e2, h5⟩
          dsimp only at *
          subst e1; subst e0
          simp only [Prod.mk.injEq] at e2
          obtain ⟨rfl, rfl, rfl, rfl, rfl⟩ := e2
          obtain ⟨i, rfl⟩ := Int.eq_ofNat_of_zero_le h2'
          by_cases hi : (i : Int) < (N : Int)
          · have hk : N - i = (N - (i + 1)) + 1 := by omega
            have e6 : ((i : Int) + 1).toNat = i + 1 := by omega
            rw [if_pos hi, sfind_eq hll hA]
            have hz : bzI n (i : Int) = bz n i := by unfold bzI; rw [if_neg (by omega), Int.toNat_natCast]
            have fin : ∀ x : List Int, x = pk c w5 i → StepOK (σ := (List Int × Int × Int) × (Int × Int × Int × Int × List DBk) × List Int) (O := ((Int × Int × Int × Int × List DBk) × List Int) ⊕ (Int × List Int)) (fun s => s.1.1 = c ∧ s.1.2.1 = (N : Int) ∧ 0 ≤ s.1.2.2 ∧ s.1.2.2 ≤ (N : Int) ∧ s.2.1 = (w1, w2, (n : Int), w4, w5) ∧ (s.2.2.length : Int) ≤ 16 * s.1.2.2) (fun s => N - s.1.2.2.toNat) (fun s => (match appL c w5 n s.1.2.2.toNat (N - s.1.2.2.toNat) s.2.2 with | none => Sum.inr (3, []) | some o => .inl ((w1, w2, (n : Int), w4, w5), o) : ((Int × Int × Int × Int × List DBk) × List Int) ⊕ (Int × List Int))) ((c, (N : Int), (i : Int)), (w1, w2, (n : Int), w4, w5), out)
                ((delta_length ((n : Int), (i : Int))).bind fun x33 => if ¬ (x.length : Int) = x33 then some (.inr (.inr (3, []))) else if (out.length + x.length) * 1 ≤ 140737488355328 then some (.inl ((c, (N : Int), IntKind.i64.wrap ((i : Int) + 1)), (w1, w2, (n : Int), w4, w5), out ++ x)) else none) := by
              intro x hx
              subst hx
              rw [length_eq28 (by omega), hz]
              simp only [Option.bind_some]
              by_cases hc : (pk c w5 i).length = bz n i
              · have hbz : bz n i ≤ 16 := by unfold bz; omega
                rw [if_neg (fun h => h (by omega)), if_pos (by omega), wrap_i64 (by omega)]
                refine StepOK_inl ⟨by dsimp only; omega, ⟨rfl, rfl, by dsimp only; omega, by dsimp only; omega, rfl, by dsimp only; rw [List.length_append]; omega⟩, ?_⟩
                dsimp only
                rw [e6, Int.toNat_natCast, hk, appL, if_pos hc]
              · rw [if_pos (by omega)]
                refine StepOK_inr ?_
                dsimp only
                rw [Int.toNat_natCast, hk, appL, if_neg hc]
            cases hf : fnd w5 (i : Int) with
            | none =>
              dsimp only
              simp only [cond_b, decide_eq_true_eq, Bool.and_eq_true, Bool.not_eq_true', decide_eq_false_iff_not, Bool.or_eq_true, Bool.not_eq_eq_eq_not, Bool.not_true, Bool.not_false, beq_iff_eq, Option.bind_some, Bool.not_not, decide_eq_true_eq, Decidable.not_not, and_true]
              rw [if_pos trivial, block_eq28 (by omega)]
              simp only [Option.bind_some]
              exact fin _ (by unfold pk; rw [hf])
            | some x =>
              dsimp only
              simp only [cond_b, decide_eq_true_eq, Bool.and_eq_true, Bool.not_eq_true', decide_eq_false_iff_not, Bool.or_eq_true, Bool.not_eq_eq_eq_not, Bool.not_true, Bool.not_false, beq_iff_eq, Option.bind_some, Bool.not_not, decide_eq_true_eq, Decidable.not_not, and_true]
              first | rw [if_neg (by decide)] | rw [if_neg not_false]
              simp only [Option.bind_some]
              exact fin _ (by unfold pk; rw [hf])
          · rw [if_neg hi]
            refine StepOK_inr ?_
            dsimp only
            rw [Int.toNat_natCast, show N - i = 0 by omega, appL]
        · simp only [Int.toNat_zero, Nat.sub_zero]
          cases ho : appL b l n 0 N [] with
          | none => rfl
          | some o =>
            obtain ⟨g1, g2⟩ := appL_byt hb hl (fun x hx => by cases hx) ho
            rw [List.length_nil] at g2
            simp only [show crc_Sum o = some (cs o) from crcG_eq g1 (by omega), Option.bind_some]
            by_cases h3 : cs o = sm
            · rw [if_neg (fun h => h h3), if_pos h3]
            · rw [if_pos h3, if_neg h3]
      · rw [if_pos h2, if_neg (fun h => h2 h.2)]
    · rw [if_neg h1, if_neg (fun h => h1 h.1)]
  · rw [if_pos (by cases h : RightS bln n l <;> simp_all), if_neg hR]
end Go.AX
end
section
set_option linter.unusedSimpArgs false
set_option linter.unusedVariables false
set_option maxRecDepth 100000
namespace Go.AX
open Go
def zig (n : Int) : Int := if n < 0 then -2 * n - 1 else 2 * n
def zag (u : Int) : Int := if u % 2 = 1 then -(u / 2) - 1 else u / 2
def nB (n : Int) : List Int := vB (zig n).toNat
def nR (r : List Int) : Option (Int × List Int) := match vR 0 r with | .inl _ => none | .inr (v, k) => some (zag v, r.drop k)
abbrev D4 := Int × Int × Int × Int
def hR (r : List Int) : Option D4 := match nR r with
  | none => none
  | some (n, r1) => match nR r1 with
    | none => none
    | some (m, r2) => if r2.length = 8 ∧ 0 ≤ m ∧ m ≤ 65535 then some (n, leV (r2.take 4), m, leV (r2.drop 4)) else none
def hB (d : D4) : List Int := nB d.1 ++ (nB d.2.2.1 ++ (leB 4 d.2.1 ++ leB 4 d.2.2.2))
def bR (n : Nat) : Nat → List Int → List DBk → Option (List DBk × List Int)
  | 0, r, acc => some (acc, r)
  | k + 1, r, acc => match nR r with
    | none => none
    | some (a, r1) => if r1.length < bzI n a then none else bR n k (r1.drop (bzI n a)) (acc ++ [(a, r1.take (bzI n a))])
def bB : List DBk → List Int
  | [] => []
  | x :: l => nB x.1 ++ (x.2 ++ bB l)
def restB (l : List DBk) : List Int := nB (l.length : Int) ++ bB l
abbrev DD := D4 × List DBk
def encS (d : DD) : Int × List Int := if RightS d.1.1 d.1.2.2.1 d.2 = true then allS 0 [(1, hB d.1), (2, restB d.2)] [] else (3, [])
def restR (d : D4) (r : List Int) : Option DD := match nR r with
  | none => none
  | some (many, r1) => if 0 ≤ many ∧ many ≤ 5000 then (match bR d.2.2.1.toNat many.toNat r1 [] with | none => none | some (L, s) => if s.length = 0 ∧ RightS d.1 d.2.2.1 L = true then some (d, L) else none) else none
def bodyR : List Sec → Option DD
  | [(1, x), (2, y)] => match hR x with | none => none | some d => restR d y
  | _ => none
def decS (b : List Int) : Int ⊕ DD := match lS b.length 0 b [] with
  | (e, l) => if e = 0 then (match bodyR l with | none => .inl 3 | some d => .inr d) else .inl e
theorem right_small {n : Nat} : ∀ {l : List DBk} {last : Int}, n ≤ 65535 → -1 ≤ last → rightL n last l = true → ∀ x ∈ l, last < x.1 ∧ x.1 < 4096
  | [], _, _, _, _, x, hx => by cases hx
  | y :: r, last, hn, hl, h, x, hx => by
    have hm := right_mem h
    rw [rightL] at h
    split at h
    · rename_i hc
      rcases List.mem_cons.1 hx with rfl | hx'
      · have := hc.2
        refine ⟨hc.1, ?_⟩
        have h2 := this.2
        unfold bzI at h2
        rw [if_neg (by omega)] at h2
        unfold bz at h2
        omega
      · have := right_small hn (by omega) h x hx'
        omega
    · cases h
theorem right_len {n : Nat} : ∀ {l : List DBk} {last : Int}, n ≤ 65535 → -1 ≤ last → last < 4096 → rightL n last l = true → (l.length : Int) ≤ 4095 - last
  | [], _, _, _, h, _ => by simp; omega
  | y :: r, last, hn, hl, h4, h => by
    have hs := right_small hn hl h y (by simp)
    rw [rightL] at h
    split at h
    · have := right_len hn (by omega) hs.2 h
      rw [List.length_cons]; omega
    · cases h
end Go.AX
end
section
set_option linter.unusedSimpArgs false
set_option linter.unusedVariables false
set_option maxRecDepth 100000
namespace Go.AX
open Go
def fa (a b : List DBk) (n : Nat) : List DBk := a.filter fun x => (fnd b x.1).isNone && decide (x.2.length = bzI n x.1)
abbrev SAsc (l : List DBk) : Prop := l.Pairwise fun x y => x.1 < y.1
theorem sasc_ext : ∀ {l m : List DBk}, SAsc l → SAsc m → (∀ x, x ∈ l ↔ x ∈ m) → l = m
  | [], [], _, _, _ => rfl
  | [], y :: m, _, _, h => by have := (h y).2 (by simp); cases this
  | x :: l, [], _, _, h => by have := (h x).1 (by simp); cases this
  | x :: l, y :: m, hl, hm, h => by
    have hl := List.pairwise_cons.1 hl
    have hm := List.pairwise_cons.1 hm
    have hxy : x = y := by
      rcases List.mem_cons.1 ((h x).1 (by simp)) with e | e
      · exact e
      · rcases List.mem_cons.1 ((h y).2 (by simp)) with f | f
        · exact f.symm
        · have := hm.1 x e
          have := hl.1 y f
          omega
    subst hxy
    congr 1
    refine sasc_ext hl.2 hm.2 fun z => ⟨fun hz => ?_, fun hz => ?_⟩
    · rcases List.mem_cons.1 ((h z).1 (by simp [hz])) with e | e
      · have := hl.1 z hz; rw [e] at this; omega
      · exact e
    · rcases List.mem_cons.1 ((h z).2 (by simp [hz])) with e | e
      · have := hm.1 z hz; rw [e] at this; omega
      · exact e
theorem right_sasc {n : Nat} : ∀ {l : List DBk} {last : Int}, rightL n last l = true → SAsc l ∧ ∀ x ∈ l, last < x.1
  | [], _, _ => ⟨List.Pairwise.nil, fun x hx => by cases hx⟩
  | y :: r, last, h => by
    rw [rightL] at h
    split at h
    · rename_i hc
      obtain ⟨g1, g2⟩ := right_sasc h
      refine ⟨List.pairwise_cons.2 ⟨g2, g1⟩, fun x hx => ?_⟩
      rcases List.mem_cons.1 hx with rfl | hx
      · exact hc.1
      · have := g2 x hx; omega
    · cases h
theorem mem_fnd : ∀ {l : List DBk} {x : DBk}, SAsc l → x ∈ l → fnd l x.1 = some x.2
  | [], _, _, hx => by cases hx
  | y :: r, x, h, hx => by
    have h := List.pairwise_cons.1 h
    rw [fnd]
    rcases List.mem_cons.1 hx with rfl | hx
    · rw [if_pos rfl]
    · have := h.1 x hx
      rw [if_neg (by omega)]; exact mem_fnd h.2 hx
theorem mem_comp {a b : List DBk} {n : Nat} : ∀ {k i : Nat} {x : DBk}, x ∈ compL a b n i k ↔ ∃ j, (i ≤ j ∧ j < i + k) ∧ x.1 = (j : Int) ∧ cpx a b n j = some x.2
  | 0, i, x => by
    constructor
    · intro h; cases h
    · rintro ⟨j, h, _⟩; omega
  | k + 1, i, x => by
    rw [compL]
    constructor
    · intro h
      split at h
      · rename_i y hy
        rcases List.mem_cons.1 h with rfl | h
        · exact ⟨i, by omega, rfl, hy⟩
        · obtain ⟨j, h1, h2⟩ := mem_comp.1 h
          exact ⟨j, by omega, h2⟩
      · obtain ⟨j, h1, h2⟩ := mem_comp.1 h
        exact ⟨j, by omega, h2⟩
    · rintro ⟨j, h1, h2, h3⟩
      by_cases hj : j = i
      · subst hj
        rw [h3]
        dsimp only
        obtain ⟨x1, x2⟩ := x
        dsimp only at h2
        rw [h2]; simp
      · have := mem_comp (a := a) (b := b) (n := n) (k := k) (i := i + 1) (x := x).2 ⟨j, by omega, h2, h3⟩
        split
        · exact List.mem_cons_of_mem _ this
        · exact this
theorem bzI_pos {n : Nat} {a : Int} (h : ¬ bzI n a = 0) : ∃ j, a = ((j : Nat) : Int) ∧ j < nb n := by
  unfold bzI at h
  split at h
  · exact absurd rfl h
  · refine ⟨a.toNat, by omega, nb_lt.2 ?_⟩
    unfold bz at h; omega
theorem comp_sorted {a b S : List DBk} {n1 n : Nat} (ha : rightL n1 (-1) a = true) (hb : rightL n (-1) b = true) (hp : S.Perm (b ++ fa a b n)) (hs : S.Pairwise fun x y => x.1 ≤ y.1) : S = compL a b n 0 (nb n) := by
  have sa := (right_sasc ha).1
  have sb := (right_sasc hb).1
  have mb := right_mem hb
  have ma := right_mem ha
  have sfa : SAsc (fa a b n) := sa.filter _
  have mfa : ∀ x, x ∈ fa a b n ↔ x ∈ a ∧ fnd b x.1 = none ∧ x.2.length = bzI n x.1 := by
    intro x
    unfold fa
    rw [List.mem_filter]
    simp
  have hne : (b ++ fa a b n).Pairwise fun x y => x.1 ≠ y.1 := by
    refine List.pairwise_append.2 ⟨sb.imp fun h => by omega, sfa.imp fun h => by omega, fun x hx y hy => ?_⟩
    have hy := ((mfa y).1 hy).2.1
    have hx := mem_fnd sb hx
    intro e
    rw [e, hy] at hx
    cases hx
  have hne2 : S.Pairwise fun x y => x.1 ≠ y.1 := (hp.pairwise_iff (fun h => Ne.symm h)).2 hne
  have hS : SAsc S := (List.Pairwise.and hs hne2).imp fun ⟨h1, h2⟩ => by omega
  have hC : SAsc (compL a b n 0 (nb n)) := (right_sasc (right_comp (last := -1) mb (by omega) (by omega))).1
  refine sasc_ext hS hC fun x => ?_
  rw [hp.mem_iff, List.mem_append, mfa, mem_comp]
  constructor
  · rintro (h | ⟨h1, h2, h3⟩)
    · obtain ⟨j, e, hj⟩ := bzI_pos (n := n) (a := x.1) (by have := mb x h; omega)
      refine ⟨j, by omega, e, ?_⟩
      have := mem_fnd sb h
      unfold cpx
      rw [e] at this
      rw [this]
    · have hl := (ma x h1).1
      obtain ⟨j, e, hj⟩ := bzI_pos (n := n) (a := x.1) (by omega)
      refine ⟨j, by omega, e, ?_⟩
      have hx := mem_fnd sa h1
      rw [e] at hx h2 h3
      unfold cpx
      rw [h2, hx]
      dsimp only
      rw [if_pos (by rw [h3, bzI_nat])]
  · rintro ⟨j, h1, h2, h3⟩
    unfold cpx at h3
    split at h3
    · rename_i y hy
      cases h3
      rw [← h2] at hy
      exact .inl (fnd_mem hy)
    · rename_i hno
      split at h3
      · rename_i y hy
        split at h3
        · rename_i hz
          cases h3
          rw [← h2] at hy hno
          exact .inr ⟨fnd_mem hy, hno, by rw [h2, bzI_nat]; exact hz⟩
        · cases h3
      · cases h3
abbrev apS (b : List Int) (d : DD) : Int × List Int := applyS b d.1.1 d.1.2.1 d.1.2.2.1 d.1.2.2.2 d.2
abbrev RtS (d : DD) : Bool := RightS d.1.1 d.1.2.2.1 d.2
def difD (a b : List Int) : DD := (((a.length : Int), cs a, (b.length : Int), cs b), diffL a b 0 (nb b.length))
theorem RightS_of {b n : Int} {l : List DBk} (h1 : 0 ≤ b ∧ b ≤ 65535) (h2 : 0 ≤ n ∧ n ≤ 65535) (h3 : rightL n.toNat (-1) l = true) : RightS b n l = true := by
  unfold RightS; rw [if_pos ⟨h1, h2⟩, h3]
theorem dif_right {a b : List Int} (ha : a.length ≤ 65535) (hb : b.length ≤ 65535) : RtS (difD a b) = true := by
  refine RightS_of (by dsimp only [difD]; omega) (by dsimp only [difD]; omega) ?_
  unfold difD
  dsimp only
  rw [Int.toNat_natCast]
  exact right_diff (by omega) (by omega)
theorem dif_ap {a b : List Int} (ha : a.length ≤ 65535) (hb : b.length ≤ 65535) : apS a (difD a b) = (0, b) := by
  have h := dif_right ha hb
  unfold RtS difD at h
  unfold apS difD applyS
  dsimp only at h ⊢
  rw [if_pos h, if_pos ⟨rfl, rfl⟩, Int.toNat_natCast, appL_diff]
  dsimp only
  rw [if_pos rfl]
def cmpS (c d : DD) : Int × DD := if RtS c = true ∧ RtS d = true then (if c.1.2.2.1 = d.1.1 ∧ c.1.2.2.2 = d.1.2.1 then (0, ((c.1.1, c.1.2.1, d.1.2.2.1, d.1.2.2.2), compL c.2 d.2 d.1.2.2.1.toNat 0 (nb d.1.2.2.1.toNat))) else (9, ((0, 0, 0, 0), []))) else (3, ((0, 0, 0, 0), []))
theorem cmp_right {c d k : DD} (h : cmpS c d = (0, k)) : RtS k = true := by
  unfold cmpS at h
  split at h
  · rename_i hR
    split at h
    · obtain ⟨h1, h2, h3⟩ := RightS_ok hR.1
      obtain ⟨g1, g2, g3⟩ := RightS_ok hR.2
      cases h
      exact RightS_of h1 g2 (right_comp (last := -1) (right_mem g3) (by omega) (by omega))
    · cases h
  · cases h
theorem ap_ok {b x : List Int} {d : DD} (h : apS b d = (0, x)) : RtS d = true ∧ ((b.length : Int) = d.1.1 ∧ cs b = d.1.2.1) ∧ appL b d.2 d.1.2.2.1.toNat 0 (nb d.1.2.2.1.toNat) [] = some x ∧ cs x = d.1.2.2.2 := by
  unfold apS applyS at h
  split at h
  · rename_i h1
    split at h
    · rename_i h2
      split at h
      · cases h
      · rename_i o ho
        split at h
        · rename_i h3
          cases h
          exact ⟨h1, h2, ho, h3⟩
        · cases h
    · cases h
  · cases h
theorem ap_cmp {b x y : List Int} {c d : DD} (h1 : apS b c = (0, x)) (h2 : apS x d = (0, y)) : ∃ k, cmpS c d = (0, k) ∧ apS b k = (0, y) := by
  obtain ⟨r1, ⟨l1, s1⟩, a1, t1⟩ := ap_ok h1
  obtain ⟨r2, ⟨l2, s2⟩, a2, t2⟩ := ap_ok h2
  obtain ⟨t, e1, e2, e3⟩ := appL_some (by omega) a1
  rw [List.nil_append] at e1
  subst e1
  obtain ⟨p1, p2, p3⟩ := RightS_ok r1
  have hlen : (x.length : Int) = c.1.2.2.1 := by omega
  have hc : cmpS c d = (0, ((c.1.1, c.1.2.1, d.1.2.2.1, d.1.2.2.2), compL c.2 d.2 d.1.2.2.1.toNat 0 (nb d.1.2.2.1.toNat))) := by
    unfold cmpS
    rw [if_pos ⟨r1, r2⟩, if_pos ⟨by omega, by rw [← t1, s2]⟩]
  refine ⟨_, hc, ?_⟩
  have hR := cmp_right hc
  have := appL_comp (b := b) (right_mem p3) (by omega) (fun j hj => by have := e3 j hj; rwa [Nat.zero_add] at this) (by omega) a2
  unfold RtS at hR
  unfold apS applyS
  dsimp only at hR ⊢
  rw [if_pos hR, if_pos ⟨l1, s1⟩, this]
  dsimp only
  rw [if_pos t2]
def chS : List Int → List DD → Int × List Int
  | b, [] => (0, b)
  | b, d :: l => match apS b d with | (e, x) => if e = 0 then chS x l else (e, [])
def difC : List Int → List (List Int) → List DD
  | _, [] => []
  | b, x :: l => difD b x :: difC x l
def lastT : List Int → List (List Int) → List Int
  | b, [] => b
  | _, x :: l => lastT x l
theorem ch_dif : ∀ {l : List (List Int)} {b : List Int}, b.length ≤ 65535 → (∀ x ∈ l, x.length ≤ 65535) → chS b (difC b l) = (0, lastT b l)
  | [], b, _, _ => rfl
  | x :: l, b, hb, h => by
    rw [difC, chS, dif_ap hb (h x (by simp))]
    dsimp only
    rw [if_pos rfl, ch_dif (h x (by simp)) fun y hy => h y (by simp [hy])]; rfl
theorem ch_app : ∀ {l m : List DD} {b x : List Int}, chS b l = (0, x) → chS b (l ++ m) = chS x m
  | [], m, b, x, h => by cases h; rfl
  | d :: l, m, b, x, h => by
    rw [chS] at h
    rw [List.cons_append, chS]
    rcases hd : apS b d with ⟨e, y⟩
    rw [hd] at h
    dsimp only at h ⊢
    split at h
    · rename_i he
      rw [if_pos he]; exact ch_app h
    · rename_i he
      cases h
      exact absurd rfl he
theorem ch_split : ∀ {l m : List DD} {b y : List Int}, chS b (l ++ m) = (0, y) → ∃ x, chS b l = (0, x) ∧ chS x m = (0, y)
  | [], m, b, y, h => ⟨b, rfl, h⟩
  | d :: l, m, b, y, h => by
    rw [List.cons_append, chS] at h
    rw [chS]
    rcases hd : apS b d with ⟨e, z⟩
    rw [hd] at h
    dsimp only at h ⊢
    split at h
    · rename_i he
      rw [if_pos he]; exact ch_split h
    · rename_i he
      cases h
      exact absurd rfl he
theorem ch_two {l m : List DD} {c d : DD} {b y : List Int} (h : chS b (l ++ (c :: d :: m)) = (0, y)) : ∃ k, cmpS c d = (0, k) ∧ chS b (l ++ (k :: m)) = (0, y) := by
  obtain ⟨x, h1, h2⟩ := ch_split h
  rw [chS] at h2
  rcases hc : apS x c with ⟨e, z⟩
  rw [hc] at h2
  dsimp only at h2
  split at h2
  · rename_i he
    subst he
    rw [chS] at h2
    rcases hd : apS z d with ⟨e', w⟩
    rw [hd] at h2
    dsimp only at h2
    split at h2
    · rename_i he
      subst he
      obtain ⟨k, k1, k2⟩ := ap_cmp hc hd
      refine ⟨k, k1, ?_⟩
      rw [ch_app h1, chS, k2]
      dsimp only
      rw [if_pos rfl, h2]
    · rename_i he
      cases h2
      exact absurd rfl he
  · rename_i he
    cases h2
    exact absurd rfl he
end Go.AX
end
section
set_option linter.unusedSimpArgs false
set_option linter.unusedVariables false
set_option maxRecDepth 100000
namespace Go.AX
open Go
def gN (a : Int) : List DBk → Int
  | [] => a
  | x :: r => if a ≤ 1000 then gN (a + (min x.2.length 1001 : Nat)) r else a
def wtD : List DBk → Nat
  | [] => 0
  | x :: r => x.2.length + wtD r
theorem al28 : torporlaw28_alive () = some true := by decide +kernel
theorem beqL {x : List Int} : ((bst x).toList == (bst x).toList) = true := beq_self_eq_true _
theorem diffL_len {a b : List Int} : ∀ {k i : Nat}, (diffL a b i k).length ≤ k
  | 0, i => Nat.le_refl _
  | k + 1, i => by
    rw [diffL]
    have := diffL_len (a := a) (b := b) (k := k) (i := i + 1)
    split
    · omega
    · simp only [List.length_cons]; omega
theorem diffL_byt {a b : List Int} (hb : Byt b) : ∀ {k i : Nat}, BytL (diffL a b i k)
  | 0, i, x, h => by cases h
  | k + 1, i, x, h => by
    rw [diffL] at h
    split at h
    · exact diffL_byt hb x h
    · rcases List.mem_cons.1 h with rfl | h
      · exact bl_byt hb i
      · exact diffL_byt hb x h
theorem nb_le {n : Nat} (h : n ≤ 65535) : nb n ≤ 4096 := by unfold nb; omega
end Go.AX
end
section
set_option linter.unusedSimpArgs false
set_option linter.unusedVariables false
set_option maxRecDepth 100000
namespace Go.AX
open Go
end Go.AX
end
section
set_option linter.unusedSimpArgs false
set_option linter.unusedVariables false
set_option maxRecDepth 100000
namespace Go.AX
open Go
end Go.AX
end
section
set_option linter.unusedSimpArgs false
set_option linter.unusedVariables false
set_option maxRecDepth 100000
namespace Go.AX
open Go
def nT (p : Nat) : Int ⊕ (Int × Nat) → Int × Int × Int
  | .inl e => (0, 0, e)
  | .inr (v, k) => (zag v, ((p + k : Nat) : Int), 0)
def numT (b : List Int) (p : Nat) : Int ⊕ (Int × Nat) → Int × List Int × Int × Int
  | .inl e => (0, b, (p : Int), e)
  | .inr (v, k) => (zag v, b, ((p + k : Nat) : Int), 0)
end Go.AX
end
section
set_option linter.unusedSimpArgs false
set_option linter.unusedVariables false
set_option maxRecDepth 100000
namespace Go.AX
open Go
def bRx (n : Nat) (b : List Int) : Nat → Nat → Int → List DBk → Nat × Int × List DBk
  | 0, p, e, acc => (p, e, acc)
  | k + 1, p, e, acc => if e = 0 then (match vR 0 (b.drop p) with
      | .inl e' => (p, e', acc ++ [(0, [])])
      | .inr (v, kk) => if b.length < p + kk + bzI n (zag v) then (p + kk, 2, acc ++ [(zag v, [])]) else bRx n b k (p + kk + bzI n (zag v)) 0 (acc ++ [(zag v, seg b (p + kk) (bzI n (zag v)))])) else (p, e, acc)
def decT : Option DD → (D4 × Int) × List DBk
  | none => (((0, 0, 0, 0), 3), [])
  | some (d, L) => ((d, 0), L)
end Go.AX
end
section
set_option linter.unusedSimpArgs false
set_option linter.unusedVariables false
set_option maxRecDepth 100000
namespace Go.AX
open Go
end Go.AX
end
section
set_option linter.unusedSimpArgs false
set_option linter.unusedVariables false
set_option maxRecDepth 100000
namespace Go.AX
open Go
def decU : Int ⊕ DD → (D4 × Int) × List DBk
  | .inl e => (((0, 0, 0, 0), e), [])
  | .inr (d, L) => ((d, 0), L)
end Go.AX
end
section
set_option linter.unusedSimpArgs false
set_option linter.unusedVariables false
set_option maxRecDepth 100000
namespace Go.AX
open Go
theorem fa_dis {a b : List DBk} {n1 n : Nat} (ha : rightL n1 (-1) a = true) (hb : rightL n (-1) b = true) : KDis (b ++ fa a b n) := by
  have sa := (right_sasc ha).1
  have sb := (right_sasc hb).1
  have sfa : SAsc (fa a b n) := sa.filter _
  refine List.pairwise_append.2 ⟨sb.imp fun h => by omega, sfa.imp fun h => by omega, fun x hx y hy => ?_⟩
  have hy : fnd b y.1 = none := by
    unfold fa at hy
    rw [List.mem_filter] at hy
    have := hy.2
    simp at this
    exact this.1
  have hx := mem_fnd sb hx
  intro e
  rw [e, hy] at hx
  cases hx
theorem CloneB_eq {l : List DBk} (h : l.length ≤ 1000000) : Clone_Block l = some l := by
  unfold Clone_Block cloneG
  rw [decide_eq_true (by omega)]; rfl
theorem SortB_eq {a b : List DBk} {n1 n : Nat} (ha : rightL n1 (-1) a = true) (hb : rightL n (-1) b = true) (hl : (b ++ fa a b n).length ≤ 1000000) : SortFunc_Block (b ++ fa a b n) = some (compL a b n 0 (nb n)) := by
  have hC := comp_sorted ha hb (sortK_perm (b ++ fa a b n)) (sortK_asc (b ++ fa a b n))
  have hd := fa_dis ha hb
  rw [← hC]
  generalize b ++ fa a b n = S at *
  unfold SortFunc_Block orG
  by_cases h0 : S.length = 0
  · have : S = [] := List.eq_nil_of_length_eq_zero h0
    subst this
    have : SortFunc_small [] = some [] := by decide +kernel
    rw [this]
    rfl
  · have : sortG (.sl (.int .u8)) S = some (sortK S) := by
      unfold sortG
      have h1 : Nat.blt 0 S.length = true := by rw [Nat.blt_eq]; omega
      have h2 : Nat.ble S.length 1000000 = true := Nat.ble_eq_true_of_le hl
      have h3 : decide (KDis S) = true := decide_eq_true hd
      rw [h1, h2]
      show (bif true && (true && decide (KDis S)) then some (sortK S) else none) = _
      rw [h3]; rfl
    rw [this]
def cmpU : Int × DD → (D4 × Int) × List DBk := fun r => ((r.2.1, r.1), r.2.2)
theorem fa_cons {x : DBk} {a b : List DBk} {n : Nat} : fa (x :: a) b n = if fnd b x.1 = none ∧ x.2.length = bzI n x.1 then x :: fa a b n else fa a b n := by
  unfold fa
  rw [List.filter_cons]
  by_cases h : fnd b x.1 = none ∧ x.2.length = bzI n x.1
  · rw [if_pos h, if_pos (by simp [h.1, h.2])]
  · rw [if_neg h, if_neg (by simpa using h)]
theorem fa_len {a b : List DBk} {n : Nat} : (fa a b n).length ≤ a.length := List.length_filter_le _ _
theorem sCompact_eq {x1 x2 x3 x4 y1 y2 y3 y4 : Int} {a b : List DBk} (ha : a.length ≤ 100000) (hb : b.length ≤ 100000) : delta_Compact ((x1, x2, x3, x4, a), y1, y2, y3, y4, b) = some (cmpU (cmpS ((x1, x2, x3, x4), a) ((y1, y2, y3, y4), b))) := by
  unfold delta_Compact delta_Compact_g cmpS
  dsimp only
  simp only [cond_b, decide_eq_true_eq, Bool.and_eq_true, Bool.not_eq_true', decide_eq_false_iff_not, Bool.or_eq_true, Bool.not_eq_eq_eq_not, Bool.not_true, Bool.not_false, beq_iff_eq, Option.bind_some, Bool.not_not, decide_eq_true_eq, Decidable.not_not, and_true, sRight_eq (show a.length ≤ 1000000 by omega), sRight_eq (show b.length ≤ 1000000 by omega)]
  by_cases hRa : RightS x1 x3 a = true
  case neg =>
    rw [if_neg hRa, if_neg (fun h => hRa h.1)]; rfl
  case pos =>
    rw [if_pos hRa]
    by_cases hRb : RightS y1 y3 b = true
    case neg =>
      rw [if_pos (by cases h : RightS y1 y3 b <;> simp_all), if_neg (fun h => hRb h.2)]; rfl
    case pos =>
      rw [if_neg (by rw [hRb]; decide), if_pos (show RtS ((x1, x2, x3, x4), a) = true ∧ RtS ((y1, y2, y3, y4), b) = true from ⟨hRa, hRb⟩)]
      obtain ⟨_, _, ra⟩ := RightS_ok hRa
      obtain ⟨_, hn, rb⟩ := RightS_ok hRb
      obtain ⟨n, rfl⟩ := Int.eq_ofNat_of_zero_le hn.1
      rw [Int.toNat_natCast] at rb ⊢
      have hA := (Asc_of rb).1
      by_cases h1 : x3 = y1
      · rw [if_pos h1]
        by_cases h2 : x4 = y2
        · rw [if_neg (fun h => h h2), if_pos (show x3 = y1 ∧ x4 = y2 from ⟨h1, h2⟩), CloneB_eq (by omega)]
          simp only [Option.bind_some]
          have hS := SortB_eq ra rb (by rw [List.length_append]; have := fa_len (a := a) (b := b) (n := n); omega)
          have hn7 : n ≤ 70000 := by omega
          generalize compL a b n 0 (nb n) = R at *
          refine bind_loop (r := .inl ((0, 0, 0, 0), (x1, x2, (n : Int), y4), b ++ fa a b n)) (Eq.trans (LOOP_m (fun s => s.1.1 = a ∧ s.1.2.1 = (a.length : Int) ∧ s.2.1 = (y1, y2, (n : Int), y4, b) ∧ s.2.2.1 = (0, 0, 0, 0) ∧ s.2.2.2.1 = (x1, x2, (n : Int), y4) ∧ 0 ≤ s.1.2.2 ∧ s.1.2.2 ≤ (a.length : Int) ∧ (s.2.2.2.2.length : Int) ≤ b.length + s.1.2.2) (fun s => a.length - s.1.2.2.toNat) (fun s => .inl ((0, 0, 0, 0), (x1, x2, (n : Int), y4), s.2.2.2.2 ++ fa (a.drop s.1.2.2.toNat) b n)) ?_ ⟨rfl, rfl, rfl, rfl, rfl, by dsimp only; omega, by dsimp only; omega, by dsimp only; omega⟩ (by have := big; dsimp only; omega)) (by simp)) ?_
          · rintro ⟨⟨a', m, i⟩, ⟨v1, v2, v3, v4, b'⟩, ⟨z1, z2, z3, z4⟩, ⟨w1, w2, w3, w4⟩, acc⟩ ⟨e1, e2, e3, e4, e5, h3, h4, h5⟩
            dsimp only at *
            subst e1; subst e2
            simp only [Prod.mk.injEq] at e3 e4 e5
            obtain ⟨rfl, rfl, rfl, rfl, rfl⟩ := e3
            obtain ⟨rfl, rfl, rfl, rfl⟩ := e4
            obtain ⟨rfl, rfl, rfl, rfl⟩ := e5
            obtain ⟨i, rfl⟩ := Int.eq_ofNat_of_zero_le h3
            by_cases hi : (i : Int) < a'.length
            · have hdr : a'.drop i = Ty.at (.pr (.int .i64) (.sl (.int .u8))) a' (Int.toNat (i : Int)) :: a'.drop (i + 1) := tb_drop (by omega)
              have e6 : ((i : Int) + 1).toNat = i + 1 := by omega
              rw [if_pos hi, if_pos ⟨h3, hi⟩, sfind_eq (by omega) hA]
              generalize Ty.at (.pr (.int .i64) (.sl (.int .u8))) a' (Int.toNat (i : Int)) = x at *
              cases hf : fnd b' x.1 with
              | some y =>
                dsimp only
                simp only [cond_b, decide_eq_true_eq, Bool.and_eq_true, Bool.not_eq_true', decide_eq_false_iff_not, Bool.or_eq_true, Bool.not_eq_eq_eq_not, Bool.not_true, Bool.not_false, beq_iff_eq, Option.bind_some, Bool.not_not, decide_eq_true_eq, Decidable.not_not, and_true]
                first | rw [if_neg (by decide)] | rw [if_neg not_false]
                simp only [Option.bind_some]
                rw [wrap_i64 (by omega)]
                first | rw [if_neg (by decide)] | rw [if_neg not_false]
                refine StepOK_inl ⟨by dsimp only; omega, ⟨rfl, rfl, rfl, rfl, rfl, by dsimp only; omega, by dsimp only; omega, by dsimp only; omega⟩, ?_⟩
                dsimp only
                rw [e6, Int.toNat_natCast, hdr, fa_cons, if_neg (fun h => by rw [hf] at h; cases h.1)]
              | none =>
                dsimp only
                simp only [cond_b, decide_eq_true_eq, Bool.and_eq_true, Bool.not_eq_true', decide_eq_false_iff_not, Bool.or_eq_true, Bool.not_eq_eq_eq_not, Bool.not_true, Bool.not_false, beq_iff_eq, Option.bind_some, Bool.not_not, decide_eq_true_eq, Decidable.not_not, and_true]
                first | rw [if_pos rfl] | rw [if_pos trivial]
                rw [length_eq28 (by omega)]
                simp only [Option.bind_some]
                rw [wrap_i64 (by omega)]
                by_cases hz : x.2.length = bzI n x.1
                · rw [if_pos (by simp [hz]), if_pos (by simp only [List.length_cons, List.length_nil]; omega)]
                  refine StepOK_inl ⟨by dsimp only; omega, ⟨rfl, rfl, rfl, rfl, rfl, by dsimp only; omega, by dsimp only; omega, by dsimp only; simp only [List.length_append, List.length_cons, List.length_nil]; omega⟩, ?_⟩
                  dsimp only
                  rw [e6, Int.toNat_natCast, hdr, fa_cons, if_pos ⟨hf, hz⟩, List.append_assoc]; rfl
                · rw [if_neg (by simp; omega)]
                  refine StepOK_inl ⟨by dsimp only; omega, ⟨rfl, rfl, rfl, rfl, rfl, by dsimp only; omega, by dsimp only; omega, by dsimp only; omega⟩, ?_⟩
                  dsimp only
                  rw [e6, Int.toNat_natCast, hdr, fa_cons, if_neg (fun h => hz h.2)]
            · rw [if_neg hi]
              refine StepOK_inr ?_
              dsimp only
              rw [Int.toNat_natCast, List.drop_of_length_le (by omega)]
              have : fa [] b' n = [] := rfl
              rw [this, List.append_nil]
          · dsimp only
            rw [hS]
            rfl
        · rw [if_pos h2, if_neg (fun h => h2 h.2)]; rfl
      · rw [if_neg h1, if_neg (fun h => h1 h.1)]; rfl
end Go.AX
end
section
set_option linter.unusedSimpArgs false
set_option linter.unusedVariables false
set_option maxRecDepth 100000
namespace Go.AX
open Go
theorem comp_len {a b : List DBk} {n : Nat} : ∀ {k i : Nat}, (compL a b n i k).length ≤ k
  | 0, i => Nat.le_refl _
  | k + 1, i => by
    rw [compL]
    have := comp_len (a := a) (b := b) (n := n) (k := k) (i := i + 1)
    split
    · simp only [List.length_cons]; omega
    · omega
theorem cmpS_len {c d k : DD} {e : Int} (h : cmpS c d = (e, k)) : k.2.length ≤ 4096 ∧ (e = 0 → RtS k = true) := by
  have h0 := h
  unfold cmpS at h
  split at h
  · rename_i hR
    obtain ⟨_, hn, _⟩ := RightS_ok hR.2
    split at h
    · cases h
      have := comp_len (a := c.2) (b := d.2) (n := d.1.2.2.1.toNat) (k := nb d.1.2.2.1.toNat) (i := 0)
      have := nb_le (n := d.1.2.2.1.toNat) (by omega)
      exact ⟨by dsimp only; omega, fun _ => cmp_right h0⟩
    · cases h
      exact ⟨by simp, fun h => absurd h (by decide)⟩
  · cases h
    exact ⟨by simp, fun h => absurd h (by decide)⟩
end Go.AX
end
section
set_option linter.unusedSimpArgs false
set_option linter.unusedVariables false
set_option maxRecDepth 100000
namespace Go.AX
open Go
abbrev DQ := Int × Int × Int × Int × List DBk
def toD (d : DQ) : DD := ((d.1, d.2.1, d.2.2.1, d.2.2.2.1), d.2.2.2.2)
abbrev tq (l : List DQ) (i : Nat) : DQ := Ty.at (.pr (.int .i64) (.pr (.int .u32) (.pr (.int .i64) (.pr (.int .u32) (.sl (.pr (.int .i64) (.sl (.int .u8)))))))) l i
theorem tq_get {l : List DQ} {i : Nat} : tq l i = l.getD i (0, 0, 0, 0, []) := rfl
theorem tq_drop {l : List DQ} {i : Nat} (h : i < l.length) : l.drop i = tq l i :: l.drop (i + 1) := by
  rw [tq_get, List.getD_eq_getElem?_getD, List.getElem?_eq_getElem h, Option.getD_some]; exact List.drop_eq_getElem_cons h
theorem tq_mem {l : List DQ} {i : Nat} (h : i < l.length) : tq l i ∈ l := by
  rw [tq_get, List.getD_eq_getElem?_getD, List.getElem?_eq_getElem h, Option.getD_some]; exact List.getElem_mem h
def okQ (d : DQ) : Prop := BytL d.2.2.2.2 ∧ d.2.2.2.2.length ≤ 1000000
theorem ap_byt {b x : List Int} {d : DD} {e : Int} (hb : Byt b) (hd : BytL d.2) (h : apS b d = (e, x)) : Byt x ∧ x.length ≤ 65536 := by
  by_cases he : e = 0
  · subst he
    obtain ⟨h1, h2, h3, h4⟩ := ap_ok h
    obtain ⟨_, hn, _⟩ := RightS_ok h1
    obtain ⟨g1, g2⟩ := appL_byt hb hd (fun x hx => by cases hx) h3
    have := nb_le (n := d.1.2.2.1.toNat) (by omega)
    rw [List.length_nil] at g2
    exact ⟨g1, by omega⟩
  · unfold apS applyS at h
    split at h
    · split at h
      · split at h
        · cases h; exact ⟨(fun x hx => by cases hx), by simp⟩
        · split at h
          · cases h; exact absurd rfl he
          · cases h; exact ⟨(fun x hx => by cases hx), by simp⟩
      · cases h; exact ⟨(fun x hx => by cases hx), by simp⟩
    · cases h; exact ⟨(fun x hx => by cases hx), by simp⟩
theorem sAp_eq {b : List Int} {d : DQ} (hb : Byt b) (hlb : b.length ≤ 70000) (hd : okQ d) : delta_Apply (b, d.1, d.2.1, d.2.2.1, d.2.2.2.1, d.2.2.2.2) = some (apS b (toD d)) := sApply_eq hb hlb hd.1 hd.2
theorem rAp_eq {b : List Int} {d : DQ} (hb : Byt b) (hlb : b.length ≤ 70000) (hd : okQ d) : torporref28_Apply (b, d.1, d.2.1, d.2.2.1, d.2.2.2.1, d.2.2.2.2) = some (apS b (toD d)) := rApply_eq hb hlb hd.1 hd.2
theorem sChain_eq {b : List Int} {l : List DQ} (hb : Byt b) (hlb : b.length ≤ 70000) (hl : ∀ d ∈ l, okQ d) (hll : l.length ≤ 1000000) : delta_Chain (b, l) = some ((chS b (l.map toD)).2, (chS b (l.map toD)).1) := by
  unfold delta_Chain delta_Chain_g
  dsimp only
  refine Eq.trans (LOOP_m (fun s => s.2.1 = l ∧ s.2.2.1 = (l.length : Int) ∧ 0 ≤ s.2.2.2 ∧ s.2.2.2 ≤ (l.length : Int) ∧ Byt s.1 ∧ s.1.length ≤ 70000) (fun s => l.length - s.2.2.2.toNat) (fun s => ((chS s.1 ((l.drop s.2.2.2.toNat).map toD)).2, (chS s.1 ((l.drop s.2.2.2.toNat).map toD)).1)) ?_ ⟨rfl, rfl, by dsimp only; omega, by dsimp only; omega, hb, hlb⟩ (by have := big; dsimp only; omega)) (by simp)
  clear hb hlb
  rintro ⟨b, l', n, i⟩ ⟨e1, e2, h2, h3, hb, hlb⟩
  dsimp only at *
  subst e1; subst e2
  simp only [cond_b, decide_eq_true_eq, Bool.and_eq_true, Bool.not_eq_true', decide_eq_false_iff_not, Bool.or_eq_true, Bool.not_eq_eq_eq_not, Bool.not_true, Bool.not_false, beq_iff_eq, Option.bind_some, Bool.not_not, decide_eq_true_eq, Decidable.not_not, and_true]
  obtain ⟨i, rfl⟩ := Int.eq_ofNat_of_zero_le h2
  by_cases hi : (i : Int) < l'.length
  · have hlt : i < l'.length := by omega
    have hdr : l'.drop i = Ty.at (.pr (.int .i64) (.pr (.int .u32) (.pr (.int .i64) (.pr (.int .u32) (.sl (.pr (.int .i64) (.sl (.int .u8)))))))) l' (Int.toNat (i : Int)) :: l'.drop (i + 1) := tq_drop hlt
    have hq : okQ (Ty.at (.pr (.int .i64) (.pr (.int .u32) (.pr (.int .i64) (.pr (.int .u32) (.sl (.pr (.int .i64) (.sl (.int .u8)))))))) l' (Int.toNat (i : Int))) := hl _ (tq_mem hlt)
    rw [if_pos hi, if_pos ⟨h2, hi⟩]
    generalize Ty.at (.pr (.int .i64) (.pr (.int .u32) (.pr (.int .i64) (.pr (.int .u32) (.sl (.pr (.int .i64) (.sl (.int .u8)))))))) l' (Int.toNat (i : Int)) = d at *
    rw [sAp_eq hb hlb hq]
    rcases hx : apS b (toD d) with ⟨e, x⟩
    obtain ⟨g1, g2⟩ := ap_byt hb (show BytL (toD d).2 from hq.1) hx
    simp only [Option.bind_some]
    by_cases he : e = 0
    · subst he
      rw [if_neg (fun h => h rfl), wrap_i64 (by omega)]
      have e6 : ((i : Int) + 1).toNat = i + 1 := by omega
      refine StepOK_inl ⟨by dsimp only; omega, ⟨rfl, rfl, by dsimp only; omega, by dsimp only; omega, g1, by dsimp only; omega⟩, ?_⟩
      dsimp only
      rw [e6, Int.toNat_natCast, hdr, List.map_cons, chS, hx]
      rfl
    · rw [if_pos he]
      refine StepOK_inr ?_
      dsimp only
      rw [Int.toNat_natCast, hdr, List.map_cons, chS, hx]
      dsimp only
      rw [if_neg he]
  · rw [if_neg hi]
    refine StepOK_inr ?_
    dsimp only
    rw [Int.toNat_natCast, List.drop_of_length_le (by omega)]
    rfl
theorem rChain_eq {b : List Int} {l : List DQ} (hb : Byt b) (hlb : b.length ≤ 70000) (hl : ∀ d ∈ l, okQ d) (hll : l.length ≤ 1000000) : torporref28_Chain (b, l) = some (chS b (l.map toD)) := by
  unfold torporref28_Chain torporref28_Chain_g
  dsimp only
  simp only [cond_b, decide_eq_true_eq, Bool.and_eq_true, Bool.not_eq_true', decide_eq_false_iff_not, Bool.or_eq_true, Bool.not_eq_eq_eq_not, Bool.not_true, Bool.not_false, beq_iff_eq, Option.bind_some, Bool.not_not, decide_eq_true_eq, Decidable.not_not, and_true]
  rw [if_pos (by simp only [List.length_nil]; omega), List.nil_append]
  refine Eq.trans (LOOP_m (fun s => s.1.1 = l ∧ 0 ≤ s.1.2 ∧ s.1.2 ≤ (l.length : Int) ∧ Byt s.2 ∧ s.2.length ≤ 70000) (fun s => l.length - s.1.2.toNat) (fun s => chS s.2 ((l.drop s.1.2.toNat).map toD)) ?_ ⟨rfl, by dsimp only; omega, by dsimp only; omega, hb, hlb⟩ (by have := big; dsimp only; omega)) (by simp)
  clear hb hlb
  rintro ⟨⟨l', i⟩, b⟩ ⟨e1, h2, h3, hb, hlb⟩
  dsimp only at *
  subst e1
  obtain ⟨i, rfl⟩ := Int.eq_ofNat_of_zero_le h2
  by_cases hi : (i : Int) < l'.length
  · have hlt : i < l'.length := by omega
    have hdr : l'.drop i = Ty.at (.pr (.int .i64) (.pr (.int .u32) (.pr (.int .i64) (.pr (.int .u32) (.sl (.pr (.int .i64) (.sl (.int .u8)))))))) l' (Int.toNat (i : Int)) :: l'.drop (i + 1) := tq_drop hlt
    have hq : okQ (Ty.at (.pr (.int .i64) (.pr (.int .u32) (.pr (.int .i64) (.pr (.int .u32) (.sl (.pr (.int .i64) (.sl (.int .u8)))))))) l' (Int.toNat (i : Int))) := hl _ (tq_mem hlt)
    rw [if_pos hi, if_pos ⟨h2, hi⟩]
    generalize Ty.at (.pr (.int .i64) (.pr (.int .u32) (.pr (.int .i64) (.pr (.int .u32) (.sl (.pr (.int .i64) (.sl (.int .u8)))))))) l' (Int.toNat (i : Int)) = d at *
    rw [rAp_eq hb hlb hq]
    rcases hx : apS b (toD d) with ⟨e, x⟩
    obtain ⟨g1, g2⟩ := ap_byt hb (show BytL (toD d).2 from hq.1) hx
    simp only [Option.bind_some]
    by_cases he : e = 0
    · subst he
      rw [if_neg (fun h => h rfl), wrap_i64 (by omega)]
      have e6 : ((i : Int) + 1).toNat = i + 1 := by omega
      refine StepOK_inl ⟨by dsimp only; omega, ⟨rfl, by dsimp only; omega, by dsimp only; omega, g1, by dsimp only; omega⟩, ?_⟩
      dsimp only
      rw [e6, Int.toNat_natCast, hdr, List.map_cons, chS, hx]
      rfl
    · rw [if_pos he]
      refine StepOK_inr ?_
      dsimp only
      rw [Int.toNat_natCast, hdr, List.map_cons, chS, hx]
      dsimp only
      rw [if_neg he]
  · rw [if_neg hi]
    refine StepOK_inr ?_
    dsimp only
    rw [Int.toNat_natCast, List.drop_of_length_le (by omega)]
    rfl
theorem comp_byt {a b : List DBk} {n : Nat} (ha : BytL a) (hb : BytL b) {k i : Nat} : BytL (compL a b n i k) := by
  intro x hx
  obtain ⟨j, _, hj, h⟩ := mem_comp.1 hx
  unfold cpx at h
  split at h
  · rename_i y hy
    cases h
    rw [← hj] at hy
    exact hb _ (fnd_mem hy)
  · split at h
    · rename_i y hy
      split at h
      · cases h
        rw [← hj] at hy
        exact ha _ (fnd_mem hy)
      · cases h
    · cases h
theorem cmpS_byt {c d k : DD} {e : Int} (hc : BytL c.2) (hd : BytL d.2) (h : cmpS c d = (e, k)) : BytL k.2 := by
  unfold cmpS at h
  split at h
  · split at h
    · cases h; exact comp_byt hc hd
    · cases h; exact fun x hx => by cases hx
  · cases h; exact fun x hx => by cases hx
end Go.AX
end
section
set_option linter.unusedSimpArgs false
set_option linter.unusedVariables false
set_option maxRecDepth 100000
namespace Go.AX
open Go
def dfQ (a b : List Int) : DQ := ((a.length : Int), cs a, (b.length : Int), cs b, diffL a b 0 (nb b.length))
def dfC : List Int → List (List Int) → List DQ
  | _, [] => []
  | b, x :: l => dfQ b x :: dfC x l
theorem dfC_map : ∀ {l : List (List Int)} {b : List Int}, (dfC b l).map toD = difC b l
  | [], _ => rfl
  | x :: l, b => by rw [dfC, List.map_cons, dfC_map, difC]; rfl
theorem dfC_len : ∀ {l : List (List Int)} {b : List Int}, (dfC b l).length = l.length
  | [], _ => rfl
  | x :: l, b => by rw [dfC, List.length_cons, dfC_len, List.length_cons]
theorem dfC_ok : ∀ {l : List (List Int)} {b : List Int}, (∀ x ∈ l, Byt x ∧ x.length ≤ 500) → ∀ d ∈ dfC b l, okQ d
  | [], _, _, d, h => by cases h
  | x :: l, b, hl, d, h => by
    rw [dfC] at h
    obtain ⟨h1, h2⟩ := hl x (by simp)
    rcases List.mem_cons.1 h with rfl | h
    · refine ⟨diffL_byt h1, ?_⟩
      have := diffL_len (a := b) (b := x) (k := nb x.length) (i := 0)
      have := nb_le (n := x.length) (by omega)
      unfold dfQ
      dsimp only
      omega
    · exact dfC_ok (fun y hy => hl y (by simp [hy])) d h
def small : List (List Int) → Bool
  | [] => true
  | x :: l => if 500 < x.length then false else small l
theorem small_ok : ∀ {l : List (List Int)}, small l = true → ∀ x ∈ l, x.length ≤ 500
  | [], _, x, h => by cases h
  | y :: l, hs, x, h => by
    rw [small] at hs
    split at hs
    · cases hs
    · rcases List.mem_cons.1 h with rfl | h
      · omega
      · exact small_ok hs x h
abbrev tl (l : List (List Int)) (i : Nat) : List Int := Ty.at (.sl (.int .u8)) l i
theorem tl_get {l : List (List Int)} {i : Nat} : tl l i = l.getD i [] := rfl
theorem tl_drop {l : List (List Int)} {i : Nat} (h : i < l.length) : l.drop i = tl l i :: l.drop (i + 1) := by
  rw [tl_get, List.getD_eq_getElem?_getD, List.getElem?_eq_getElem h, Option.getD_some]; exact List.drop_eq_getElem_cons h
theorem tl_mem {l : List (List Int)} {i : Nat} (h : i < l.length) : tl l i ∈ l := by
  rw [tl_get, List.getD_eq_getElem?_getD, List.getElem?_eq_getElem h, Option.getD_some]; exact List.getElem_mem h
theorem Chains_eq {w : List Int} {l : List (List Int)} {at_ : Int} (hw : Byt w) (hl : ∀ x ∈ l, Byt x) (hat : 0 ≤ at_ ∧ at_ < 256) : torporlaw28_DeltaChains (w, l, at_) = some true := by
  unfold torporlaw28_DeltaChains torporlaw28_DeltaChains_g
  dsimp only
  simp only [cond_b, decide_eq_true_eq, Bool.and_eq_true, Bool.not_eq_true', decide_eq_false_iff_not, Bool.or_eq_true, Bool.not_eq_eq_eq_not, Bool.not_true, Bool.not_false, beq_iff_eq, Option.bind_some, Bool.not_not, decide_eq_true_eq, Decidable.not_not, and_true, al28]
  rw [if_neg (by decide)]
  by_cases h1 : (500 : Int) < w.length
  · rw [if_neg (by omega)]
  rw [if_pos h1]
  by_cases h2 : (10 : Int) < l.length
  · rw [if_pos h2]
  rw [if_neg h2]
  refine bind_loop (LOOP_m (fun s => s.1.1 = w ∧ s.1.2.1 = l ∧ s.1.2.2.1 = at_ ∧ 0 ≤ s.1.2.2.2.2 ∧ s.1.2.2.2.2 ≤ (l.length : Int) ∧ Byt s.1.2.2.2.1 ∧ s.1.2.2.2.1.length ≤ 500 ∧ (s.2.length : Int) ≤ s.1.2.2.2.2) (fun s => l.length - s.1.2.2.2.2.toNat) (fun s => if small (l.drop s.1.2.2.2.2.toNat) = true then .inl ((w, at_, lastT s.1.2.2.2.1 (l.drop s.1.2.2.2.2.toNat)), s.2 ++ dfC s.1.2.2.2.1 (l.drop s.1.2.2.2.2.toNat)) else .inr true) ?_ ⟨rfl, rfl, rfl, by dsimp only; omega, by dsimp only; omega, hw, by dsimp only; omega, by dsimp only; simp⟩ (by have := big; dsimp only; omega)) ?_
  · rintro ⟨⟨w', l', at', last, i⟩, acc⟩ ⟨e1, e2, e3, h3, h4, hb, hlb, h5⟩
    dsimp only at *
    subst e1; subst e2; subst e3
    obtain ⟨i, rfl⟩ := Int.eq_ofNat_of_zero_le h3
    by_cases hi : (i : Int) < l'.length
    · have hlt : i < l'.length := by omega
      have hdr : l'.drop i = Ty.at (.sl (.int .u8)) l' (Int.toNat (i : Int)) :: l'.drop (i + 1) := tl_drop hlt
      have hx : Byt (Ty.at (.sl (.int .u8)) l' (Int.toNat (i : Int))) := hl _ (tl_mem hlt)
      have hh : 0 ≤ (i : Int) ∧ (i : Int) < (l'.length : Int) := ⟨h3, hi⟩
      have e6 : ((i : Int) + 1).toNat = i + 1 := by omega
      rw [if_pos hi, if_pos hh]
      generalize Ty.at (.sl (.int .u8)) l' (Int.toNat (i : Int)) = x at *
      have sm : small (l'.drop i) = if 500 < x.length then false else small (l'.drop (i + 1)) := by rw [hdr, small]
      by_cases hc : (500 : Int) < (List.length (α := Int) x : Int)
      · rw [if_pos hc]
        refine StepOK_inr ?_
        dsimp only
        rw [Int.toNat_natCast, sm, if_pos (show 500 < List.length (α := Int) x by omega), if_neg (by decide)]
      · rw [if_neg hc, if_pos hh, sDiff_eq hb hx (by omega) (by omega)]
        simp only [Option.bind_some]
        rw [if_neg (fun h => h trivial), if_pos hh, if_pos (by simp only [List.length_cons, List.length_nil]; omega), wrap_i64 (by omega)]
        refine StepOK_inl ⟨by dsimp only; omega, ⟨rfl, rfl, rfl, by dsimp only; omega, by dsimp only; omega, hx, by dsimp only; omega, by dsimp only; simp only [List.length_append, List.length_cons, List.length_nil]; omega⟩, ?_⟩
        dsimp only
        rw [e6, Int.toNat_natCast, sm, if_neg (show ¬ 500 < List.length (α := Int) x by omega), hdr, lastT, dfC, List.append_assoc]
        rfl
    · rw [if_neg hi]
      refine StepOK_inr ?_
      dsimp only
      rw [Int.toNat_natCast, List.drop_of_length_le (by omega), small, if_pos rfl, lastT, dfC, List.append_nil]
  · simp only [Int.toNat_zero, List.drop_zero]
    cases hs : small l with
    | false => rw [if_neg (by decide)]
    | true =>
      rw [if_pos rfl]
      have hsm := small_ok hs
      have hok := dfC_ok (l := l) (b := w) (fun x hx => ⟨hl x hx, hsm x hx⟩)
      have hlen := dfC_len (l := l) (b := w)
      have hch := ch_dif (l := l) (b := w) (by omega) (fun x hx => by have := hsm x hx; omega)
      rw [← dfC_map] at hch
      rw [List.nil_append]
      generalize lastT w l = last at *
      generalize dfC w l = A at *
      dsimp only
      rw [sChain_eq hw (by omega) hok (by omega), rChain_eq hw (by omega) hok (by omega), hch]
      simp only [Option.bind_some, beqL]
      rw [if_pos trivial, if_pos trivial, if_pos trivial, if_pos trivial]
      by_cases hA2 : (A.length : Int) < 2
      · rw [if_pos hA2, if_pos trivial, if_pos trivial, decide_eq_true hA2]
      · rw [if_neg hA2]
        obtain ⟨m, hm⟩ : ∃ m, A.length = m + 2 := ⟨A.length - 2, by omega⟩
        obtain ⟨a0, rfl⟩ := Int.eq_ofNat_of_zero_le hat.1
        have hk1 : a0 % (m + 1) < m + 1 := Nat.mod_lt _ (by omega)
        have eW : IntKind.i64.wrap ((A.length : Int) - 1) = ((m + 1 : Nat) : Int) := by rw [wrap_i64 (by omega)]; omega
        have eK : (IntKind.i64.wrap (a0 : Int)).tmod (((m + 1 : Nat) : Int)) = ((a0 % (m + 1) : Nat) : Int) := by rw [wrap_i64 (by omega)]; rfl
        simp only [eW, eK]
        generalize a0 % (m + 1) = k at *
        have e1 : IntKind.i64.wrap ((k : Int) + 1) = ((k + 1 : Nat) : Int) := by rw [wrap_i64 (by omega)]; omega
        have e2 : IntKind.i64.wrap ((k : Int) + 2) = ((k + 2 : Nat) : Int) := by rw [wrap_i64 (by omega)]; omega
        simp only [e1, e2, Int.toNat_natCast]
        have hkl : k < A.length := by omega
        have hkl1 : k + 1 < A.length := by omega
        have hsplit : A = A.take k ++ (Ty.at (.pr (.int .i64) (.pr (.int .u32) (.pr (.int .i64) (.pr (.int .u32) (.sl (.pr (.int .i64) (.sl (.int .u8)))))))) A k :: Ty.at (.pr (.int .i64) (.pr (.int .u32) (.pr (.int .i64) (.pr (.int .u32) (.sl (.pr (.int .i64) (.sl (.int .u8)))))))) A (k + 1) :: A.drop (k + 2)) := by
          rw [← (tq_drop hkl1 : A.drop (k + 1) = Ty.at (.pr (.int .i64) (.pr (.int .u32) (.pr (.int .i64) (.pr (.int .u32) (.sl (.pr (.int .i64) (.sl (.int .u8)))))))) A (k + 1) :: A.drop (k + 2)), ← (tq_drop hkl : A.drop k = Ty.at (.pr (.int .i64) (.pr (.int .u32) (.pr (.int .i64) (.pr (.int .u32) (.sl (.pr (.int .i64) (.sl (.int .u8)))))))) A k :: A.drop (k + 1)), List.take_append_drop]
        have hc : okQ (Ty.at (.pr (.int .i64) (.pr (.int .u32) (.pr (.int .i64) (.pr (.int .u32) (.sl (.pr (.int .i64) (.sl (.int .u8)))))))) A k) := hok _ (tq_mem hkl)
        have hd : okQ (Ty.at (.pr (.int .i64) (.pr (.int .u32) (.pr (.int .i64) (.pr (.int .u32) (.sl (.pr (.int .i64) (.sl (.int .u8)))))))) A (k + 1)) := hok _ (tq_mem hkl1)
        generalize Ty.at (.pr (.int .i64) (.pr (.int .u32) (.pr (.int .i64) (.pr (.int .u32) (.sl (.pr (.int .i64) (.sl (.int .u8)))))))) A k = c at *
        generalize Ty.at (.pr (.int .i64) (.pr (.int .u32) (.pr (.int .i64) (.pr (.int .u32) (.sl (.pr (.int .i64) (.sl (.int .u8)))))))) A (k + 1) = d at *
        have hch' := hch
        rw [hsplit, List.map_append, List.map_cons, List.map_cons] at hch'
        obtain ⟨⟨⟨k1, k2, k3, k4⟩, L⟩, hK, hchK⟩ := ch_two hch'
        have hL := (cmpS_len hK).1
        have hLB := cmpS_byt (c := toD c) (d := toD d) hc.1 hd.1 hK
        have hsc : c.2.2.2.2.length ≤ 100000 ∧ d.2.2.2.2.length ≤ 100000 := by
          have hR : RtS (toD c) = true ∧ RtS (toD d) = true := by
            unfold cmpS at hK
            split at hK
            · assumption
            · cases hK
          obtain ⟨_, q1, q2⟩ := RightS_ok hR.1
          obtain ⟨_, q3, q4⟩ := RightS_ok hR.2
          have a1 := right_len (by omega) (by decide) (by decide) q2
          have a2 := right_len (by omega) (by decide) (by decide) q4
          unfold toD at a1 a2
          dsimp only at a1 a2
          omega
        have hcmp : delta_Compact ((c.1, c.2.1, c.2.2.1, c.2.2.2.1, c.2.2.2.2), d.1, d.2.1, d.2.2.1, d.2.2.2.1, d.2.2.2.2) = some (((k1, k2, k3, k4), 0), L) := by
          rw [sCompact_eq hsc.1 hsc.2]
          show some (cmpU (cmpS (toD c) (toD d))) = _
          rw [hK]; rfl
        rw [if_pos (by omega), if_pos ⟨by omega, by omega⟩, if_pos hkl, if_pos ⟨by omega, by omega⟩, if_pos hkl1, hcmp]
        simp only [Option.bind_some, Nat.sub_zero, List.nil_append]
        have ht : (A.drop (k + 2)).take (A.length - (k + 2)) = A.drop (k + 2) := List.take_of_length_le (by rw [List.length_drop]; omega)
        rw [ht, if_pos ⟨by omega, by omega⟩, if_pos ⟨by omega, by omega⟩, if_pos ⟨by omega, by simp; omega⟩, if_pos (by simp; omega), if_pos ⟨by omega, by simp; omega⟩]
        have hokS : ∀ x ∈ A.take k ++ [(k1, k2, k3, k4, L)] ++ A.drop (k + 2), okQ x := by
          intro x hx
          rcases List.mem_append.1 hx with hx | hx
          · rcases List.mem_append.1 hx with hx | hx
            · exact hok _ (List.mem_of_mem_take hx)
            · rcases List.mem_cons.1 hx with rfl | hx
              · exact ⟨hLB, by dsimp only at hL ⊢; omega⟩
              · cases hx
          · exact hok _ (List.mem_of_mem_drop hx)
        rw [sChain_eq hw (by omega) hokS (by simp; omega)]
        have hmap : (A.take k ++ [((k1, k2, k3, k4, L) : DQ)] ++ A.drop (k + 2)).map toD = (A.take k).map toD ++ (((k1, k2, k3, k4), L) : DD) :: (A.drop (k + 2)).map toD := by
          rw [List.append_assoc, List.map_append, List.map_append]; rfl
        rw [hmap, hchK]
        simp only [Option.bind_some, beqL]
        rfl
end Go.AX
end
section
set_option linter.unusedSimpArgs false
set_option linter.unusedVariables false
namespace Go.AX
open Go
abbrev AllOf (ts : List (Nat × SK)) (g : Val (StK.den ⟨ts, []⟩) → Option Bool) : Prop := ∀ x : Val (SK.denL (tsL ts)), SK.okL (tsL ts) x → g (mk2 x ()) = some true
theorem u8_ok {n : Int} (h : (Lit.int .u8 n).wf = true) : 0 ≤ n ∧ n < 256 := by
  simp only [Lit.wf, Bool.and_eq_true, decide_eq_true_eq] at h
  have h1 : IntKind.u8.min = 0 := rfl
  have h2 : IntKind.u8.max = 255 := rfl
  rw [h1, h2] at h
  omega
theorem u32_ok {n : Int} (h : (Lit.int .u32 n).wf = true) : 0 ≤ n ∧ n < 4294967296 := by
  simp only [Lit.wf, Bool.and_eq_true, decide_eq_true_eq] at h
  have h1 : IntKind.u32.min = 0 := rfl
  have h2 : IntKind.u32.max = 4294967295 := rfl
  rw [h1, h2] at h
  omega
theorem Byt_ok {l : List Int} (h : Ty.ok (.sl (.int .u8)) l) : Byt l := fun x hx => u8_ok (h.2 x hx)
theorem BytL_ok {l : List DBk} (h : Ty.ok (.sl (.pr (.int .i64) (.sl (.int .u8)))) l) : BytL l := fun s hs => Byt_ok (h.2 s hs).2
theorem DeltaChains_true : AllOf sg_torporlaw28_DeltaChains.a.ts torporlaw28_DeltaChains := by
  rintro ⟨w, l, k⟩ h
  have h1 : Ty.ok (.sl (.int .u8)) w := h.1
  have h2 : Ty.ok (.sl (.sl (.int .u8))) l := h.2.1
  have h3 : (Lit.int .u8 k).wf = true := h.2.2.1
  exact Chains_eq (Byt_ok h1) (fun x hx => Byt_ok (h2.2 x hx)) (u8_ok h3)
end Go.AX
end
