/- The law DeltaRefuses, in plain terms: part one. -/
import Derived.Test.YtgmacflaicapaabGeB
import Derived.Test.YtgmacflaicapaabGqDeltaRefuses
import Derived.Test.YtgmacflaicapaabGcA
section
set_option linter.unusedSimpArgs false
set_option linter.unusedVariables false
namespace Go.AX
open Go
theorem xor_div2 (a b : Nat) : (a ^^^ b) / 2 = (a / 2) ^^^ (b / 2) := by
  have := Nat.shiftRight_xor_distrib (a := a) (b := b) (i := 1)
  simpa [Nat.shiftRight_eq_div_pow] using this
theorem xor_mod2 (a b : Nat) : (a ^^^ b) % 2 = (a % 2) ^^^ (b % 2) := Nat.xor_mod_two_pow (n := 1)
theorem xor4 (a b c d : Nat) : (a ^^^ b) ^^^ (c ^^^ d) = (a ^^^ c) ^^^ (b ^^^ d) := by
  rw [Nat.xor_assoc, Nat.xor_assoc, ← Nat.xor_assoc b, Nat.xor_comm b c, Nat.xor_assoc]
theorem cd_xor (a b : Nat) : cd (a ^^^ b) = cd a ^^^ cd b := by
  have h := xor_mod2 a b
  unfold cd
  rw [xor_div2]
  have ha : a % 2 = 0 ∨ a % 2 = 1 := by omega
  have hb : b % 2 = 0 ∨ b % 2 = 1 := by omega
  rcases ha with ha | ha <;> rcases hb with hb | hb <;> rw [ha, hb] at h
  · rw [if_neg (by rw [h]; decide), if_neg (by omega), if_neg (by omega)]
  · rw [if_pos (by rw [h]; decide), if_neg (by omega), if_pos (by omega), Nat.xor_assoc]
  · rw [if_pos (by rw [h]; decide), if_pos (by omega), if_neg (by omega), Nat.xor_assoc, Nat.xor_comm (b / 2), Nat.xor_assoc]
  · rw [if_neg (by rw [h]; decide), if_pos (by omega), if_pos (by omega), xor4, Nat.xor_self, Nat.xor_zero]
theorem cdn_xor : ∀ (n a b : Nat), cdn n (a ^^^ b) = cdn n a ^^^ cdn n b
  | 0, _, _ => rfl
  | n + 1, a, b => by simp only [cdn, cd_xor, cdn_xor n]
theorem cdn_high : ∀ (n z : Nat), cdn n (2 ^ n * z) = z
  | 0, z => by simp [cdn]
  | n + 1, z => by
    have h : 2 ^ (n + 1) * z = 2 * (2 ^ n * z) := by rw [Nat.pow_succ, Nat.mul_comm (2 ^ n) 2, Nat.mul_assoc]
    have h1 : cd (2 ^ (n + 1) * z) = 2 ^ n * z := by
      rw [h]; unfold cd; rw [if_neg (by omega)]; omega
    simp only [cdn, h1, cdn_high n]
theorem split8 (y : Nat) : y = (y % 256) ^^^ (2 ^ 8 * (y / 256)) := by
  apply Nat.eq_of_testBit_eq
  intro i
  rw [Nat.testBit_xor, show (256 : Nat) = 2 ^ 8 from rfl, Nat.testBit_mod_two_pow, Nat.testBit_two_pow_mul, Nat.testBit_div_two_pow]
  by_cases h : i < 8
  · simp [h, show ¬ i ≥ 8 by omega]
  · simp [h, show i ≥ 8 by omega, show 8 + (i - 8) = i by omega]
theorem div_xor8 {c x : Nat} (hx : x < 256) : (c ^^^ x) / 256 = c / 256 := by
  have := Nat.shiftRight_xor_distrib (a := c) (b := x) (i := 8)
  simp only [Nat.shiftRight_eq_div_pow, show (2 : Nat) ^ 8 = 256 from rfl] at this
  rw [this, show x / 256 = 0 by omega, Nat.xor_zero]
theorem step_cdn {c x : Nat} (hx : x < 256) : step (cdn 8) c x = cdn 8 (c ^^^ x) := by
  have h := congrArg (cdn 8) (split8 (c ^^^ x))
  rw [cdn_xor 8 ((c ^^^ x) % 256), cdn_high, div_xor8 hx] at h
  exact h.symm
theorem xor_inj_l {a b c : Nat} (h : a ^^^ b = a ^^^ c) : b = c := by
  have := congrArg (a ^^^ ·) h
  simpa [← Nat.xor_assoc] using this
theorem xor_inj_r {a b c : Nat} (h : b ^^^ a = c ^^^ a) : b = c := xor_inj_l (a := a) (by rw [Nat.xor_comm, h, Nat.xor_comm])
theorem xor_zero_eq {a b : Nat} (h : a ^^^ b = 0) : a = b := xor_inj_r (a := b) (by rw [h, Nat.xor_self])
theorem cd_zero {z : Nat} (hz : z < 4294967296) (h : cd z = 0) : z = 0 := by
  unfold cd at h
  split at h
  · have := xor_zero_eq h
    omega
  · omega
theorem cdn_zero : ∀ (n : Nat) {z : Nat}, z < 4294967296 → cdn n z = 0 → z = 0
  | 0, _, _, h => h
  | n + 1, z, hz, h => cd_zero hz (cdn_zero n (cd_lt hz) h)
theorem cdn_inj {n a b : Nat} (ha : a < 4294967296) (hb : b < 4294967296) (h : cdn n a = cdn n b) : a = b := by
  have h1 : cdn n (a ^^^ b) = 0 := by rw [cdn_xor, h, Nat.xor_self]
  exact xor_zero_eq (cdn_zero n (Nat.xor_lt_two_pow (n := 32) ha hb) h1)
theorem lt8 {x : Nat} (h : x < 256) : x < 4294967296 := by omega
theorem upd_inj : ∀ {bs : List Nat} {a b : Nat}, (∀ x ∈ bs, x < 256) → a < 4294967296 → b < 4294967296 → upd (cdn 8) a bs = upd (cdn 8) b bs → a = b
  | [], _, _, _, _, _, h => h
  | x :: r, a, b, hx, ha, hb, h => by
    have hx0 := hx x (by simp)
    have h1 := upd_inj (bs := r) (fun y hy => hx y (by simp [hy])) (step_lt Tab.crc ha) (step_lt Tab.crc hb) h
    rw [step_cdn hx0, step_cdn hx0] at h1
    have ha' : a ^^^ x < 4294967296 := Nat.xor_lt_two_pow (n := 32) ha (lt8 hx0)
    have hb' : b ^^^ x < 4294967296 := Nat.xor_lt_two_pow (n := 32) hb (lt8 hx0)
    exact xor_inj_r (cdn_inj ha' hb' h1)
theorem upd_set : ∀ {bs : List Nat} {i : Nat} {a x : Nat}, (∀ x ∈ bs, x < 256) → x < 256 → a < 4294967296 → (h : i < bs.length) → upd (cdn 8) a (bs.set i x) = upd (cdn 8) a bs → x = bs[i]
  | y :: r, 0, a, x, hbs, hx, ha, _, h => by
    have hy := hbs y (by simp)
    have h1 := upd_inj (bs := r) (fun y hy => hbs y (by simp [hy])) (step_lt Tab.crc ha) (step_lt Tab.crc ha) h
    rw [step_cdn hx, step_cdn hy] at h1
    have ha' : a ^^^ x < 4294967296 := Nat.xor_lt_two_pow (n := 32) ha (lt8 hx)
    have hb' : a ^^^ y < 4294967296 := Nat.xor_lt_two_pow (n := 32) ha (lt8 hy)
    exact xor_inj_l (cdn_inj ha' hb' h1)
  | y :: r, i + 1, a, x, hbs, hx, ha, hi, h => upd_set (bs := r) (fun y hy => hbs y (by simp [hy])) hx (step_lt Tab.crc ha) (by simpa using hi) h
theorem sum_set {bs : List Nat} {i x : Nat} (hbs : ∀ x ∈ bs, x < 256) (hx : x < 256) (h : i < bs.length) : (sum (bs.set i x) = sum bs) ↔ x = bs[i] := by
  constructor
  · intro he
    exact upd_set hbs hx (by decide) h (xor_inj_r he)
  · rintro rfl
    rw [List.set_getElem_self]
def put3 : List Nat → List Nat → List Nat → List Nat
  | x :: a, y :: b, z :: c => (x ^^^ y ^^^ z) :: put3 a b c
  | _, _, _ => []
end Go.AX
end
section
set_option linter.unusedSimpArgs false
set_option linter.unusedVariables false
namespace Go.AX
open Go
theorem big : 1000000000000 < FUEL := by decide
def Byt (l : List Int) : Prop := ∀ x ∈ l, 0 ≤ x ∧ x < 256
def cs (l : List Int) : Int := ((sum (l.map Int.toNat) : Nat) : Int)
theorem crcG_eq {l : List Int} (h : Byt l) (hl : l.length ≤ 1000000) : crcG l = some (cs l) := by
  unfold crcG
  rw [u8ok_iff.2 h, decide_eq_true hl]; rfl
theorem getD_drop {l : List Int} {i : Nat} (h : i < l.length) : l.drop i = l.getD i 0 :: l.drop (i + 1) := by
  rw [List.getD_eq_getElem?_getD, List.getElem?_eq_getElem h, Option.getD_some]; exact List.drop_eq_getElem_cons h
theorem Byt.at_ {l : List Int} (hb : Byt l) {i : Nat} : 0 ≤ l.getD i 0 ∧ l.getD i 0 < 256 := by
  rw [List.getD_eq_getElem?_getD]
  cases h : l[i]? with
  | none => simp
  | some x => exact hb x (List.mem_of_getElem? h)
theorem cs_set {l : List Int} (hb : Byt l) {i : Nat} (hi : i < l.length) {x : Int} (hx : 0 ≤ x ∧ x < 256) : cs (l.set i x) = cs l ↔ x = l.getD i 0 := by
  have h := sum_set (bs := l.map Int.toNat) (i := i) (x := x.toNat) (fun y hy => by
    obtain ⟨z, hz, rfl⟩ := List.mem_map.1 hy
    have := hb z hz; omega) (by omega) (by simpa using hi)
  have hg := hb.at_ (i := i)
  rw [List.getD_eq_getElem?_getD, List.getElem?_eq_getElem hi, Option.getD_some] at hg ⊢
  rw [← List.map_set, List.getElem_map] at h
  unfold cs
  constructor
  · intro e
    have := h.1 (by omega)
    omega
  · rintro e
    have := h.2 (by omega)
    rw [this]
end Go.AX
end
section
set_option linter.unusedSimpArgs false
set_option linter.unusedVariables false
set_option maxRecDepth 100000
namespace Go.AX
open Go
def tbl : ByteArray := (⟨#[0, 1, 2, 2, 3, 3, 3, 3, 4, 4, 4, 4, 4, 4, 4, 4, 5, 5, 5, 5, 5, 5, 5, 5, 5, 5, 5, 5, 5, 5, 5, 5, 6, 6, 6, 6, 6, 6, 6, 6, 6, 6, 6, 6, 6, 6, 6, 6, 6, 6, 6, 6, 6, 6, 6, 6, 6, 6, 6, 6, 6, 6, 6, 6, 7, 7, 7, 7, 7, 7, 7, 7, 7, 7, 7, 7, 7, 7, 7, 7, 7, 7, 7, 7, 7, 7, 7, 7, 7, 7, 7, 7, 7, 7, 7, 7, 7, 7, 7, 7, 7, 7, 7, 7, 7, 7, 7, 7, 7, 7, 7, 7, 7, 7, 7, 7, 7, 7, 7, 7, 7, 7, 7, 7, 7, 7, 7, 7, 8, 8, 8, 8, 8, 8, 8, 8, 8, 8, 8, 8, 8, 8, 8, 8, 8, 8, 8, 8, 8, 8, 8, 8, 8, 8, 8, 8, 8, 8, 8, 8, 8, 8, 8, 8, 8, 8, 8, 8, 8, 8, 8, 8, 8, 8, 8, 8, 8, 8, 8, 8, 8, 8, 8, 8, 8, 8, 8, 8, 8, 8, 8, 8, 8, 8, 8, 8, 8, 8, 8, 8, 8, 8, 8, 8, 8, 8, 8, 8, 8, 8, 8, 8, 8, 8, 8, 8, 8, 8, 8, 8, 8, 8, 8, 8, 8, 8, 8, 8, 8, 8, 8, 8, 8, 8, 8, 8, 8, 8, 8, 8, 8, 8, 8, 8, 8, 8, 8, 8, 8, 8, 8, 8, 8, 8, 8, 8]⟩ : ByteArray)
theorem sh (x : Int) (n : Nat) (m : Int) (hm : (2 : Int) ^ n = m) (h : 0 < m) : x.fdiv (2 ^ n) = x / m := by
  rw [hm]; exact Int.fdiv_eq_ediv_of_nonneg _ (by omega)
def leB : Nat → Int → List Int
  | 0, _ => []
  | n + 1, v => v % 256 :: leB n (v / 256)
theorem Byt.app {l m : List Int} (h : Byt l) (g : Byt m) : Byt (l ++ m) := fun x hx => (List.mem_append.1 hx).elim (h x) (g x)
end Go.AX
end
section
set_option linter.unusedSimpArgs false
set_option linter.unusedVariables false
set_option maxRecDepth 100000
namespace Go.AX
open Go
def leV : List Int → Int
  | [] => 0
  | b :: r => b + 256 * leV r
theorem Byt.take {l : List Int} (h : Byt l) (n : Nat) : Byt (l.take n) := fun x hx => h x (List.mem_of_mem_take hx)
theorem Byt.drop {l : List Int} (h : Byt l) (n : Nat) : Byt (l.drop n) := fun x hx => h x (List.mem_of_mem_drop hx)
def seg (l : List Int) (i n : Nat) : List Int := (l.take (i + n)).drop i
end Go.AX
end
section
set_option linter.unusedSimpArgs false
set_option linter.unusedVariables false
set_option maxRecDepth 100000
namespace Go.AX
open Go
def vB (n : Nat) : List Int := if n < 128 then [(n : Int)] else ((n % 128 + 128 : Nat) : Int) :: vB (n / 128)
termination_by n
decreasing_by omega
def vR (i : Nat) : List Int → Int ⊕ (Int × Nat)
  | [] => .inl 2
  | c :: r => if i = 9 ∧ 1 < c then .inl 4 else if 127 < c then (match vR (i + 1) r with | .inl e => .inl e | .inr (v, k) => .inr (c % 128 + 128 * v, k + 1)) else if c = 0 ∧ 0 < i then .inl 3 else .inr (c, 1)
def vT (p i : Nat) (a m : Int) : Int ⊕ (Int × Nat) → Int × Int × Int
  | .inl e => (0, 0, e)
  | .inr (v, k) => (a + m * v, ((p + i + k : Nat) : Int), 0)
end Go.AX
end
section
set_option linter.unusedSimpArgs false
set_option linter.unusedVariables false
set_option maxRecDepth 100000
namespace Go.AX
open Go
def own (t : Int) (body : List Int) : List Int := [t] ++ vB body.length ++ body
def secB (t : Int) (body : List Int) : List Int := own t body ++ leB 4 (cs (own t body))
def appS (b : List Int) (t : Int) (body : List Int) : Int × List Int := if t = 0 then (3, []) else if 65535 < body.length then (4, []) else (0, b ++ secB t body)
abbrev Sec := Int × List Int
def secOK (s : Sec) : Prop := (0 ≤ s.1 ∧ s.1 < 256) ∧ Byt s.2
def SecsOK (l : List Sec) : Prop := ∀ s ∈ l, secOK s
def wt : List Sec → Nat
  | [] => 0
  | s :: r => 1 + s.2.length + wt r
def allS (last : Int) : List Sec → List Int → Int × List Int
  | [], out => (0, out)
  | s :: r, out => if s.1 ≤ last then (3, []) else if 65535 < s.2.length then (4, []) else allS s.1 r (out ++ secB s.1 s.2)
abbrev ta (l : List Sec) (i : Nat) : Sec := Ty.at (.pr (.int .u8) (.sl (.int .u8))) l i
end Go.AX
end
section
set_option linter.unusedSimpArgs false
set_option linter.unusedVariables false
set_option maxRecDepth 100000
namespace Go.AX
open Go
def pS : List Int → Int ⊕ (Int × List Int × Nat)
  | [] => .inl 2
  | t :: r => if t = 0 then .inl 3 else match vR 0 r with
    | .inl e => .inl e
    | .inr (n, k) => if 65535 < n then .inl 4 else if r.length < k + n.toNat + 4 then .inl 2 else if cs ((t :: r).take (1 + k + n.toNat)) = leV (seg r (k + n.toNat) 4) then .inr (t, seg r k n.toNat, 1 + k + n.toNat + 4) else .inl 5
def lenS (b : List Int) (p : Nat) : Int ⊕ (Int × Nat) → (Int × List Int × Int) ⊕ Int
  | .inl e => .inr e
  | .inr (v, k) => if 65535 < v then .inr 4 else .inl (v, b, ((p + k : Nat) : Int))
def secS (b : List Int) (p : Nat) : Int ⊕ (Int × List Int × Nat) → (Int × (List Int × Int) × List Int) ⊕ Int
  | .inl e => .inr e
  | .inr (t, body, k) => .inl (t, (b, ((p + k : Nat) : Int)), body)
theorem Clone_eq {l : List Int} (h : l.length ≤ 1000000) : Clone_byte l = some l := by
  unfold Clone_byte cloneG
  rw [decide_eq_true (by omega)]; rfl
end Go.AX
end
section
set_option linter.unusedSimpArgs false
set_option linter.unusedVariables false
set_option maxRecDepth 100000
namespace Go.AX
open Go
def redS (p : Nat) : Int ⊕ (Int × List Int × Nat) → (Int × Int × Int) × List Int
  | .inl e => ((0, 0, e), [])
  | .inr (t, body, k) => ((t, ((p + k : Nat) : Int), 0), body)
end Go.AX
end
section
set_option linter.unusedSimpArgs false
set_option linter.unusedVariables false
set_option maxRecDepth 100000
namespace Go.AX
open Go
def lS : Nat → Int → List Int → List Sec → Int × List Sec
  | 0, _, _, acc => (0, acc)
  | f + 1, last, r, acc => if r.length = 0 then (0, acc) else match pS r with
    | .inl e => (e, [])
    | .inr (t, body, k) => if t ≤ last then (3, []) else lS f t (r.drop k) (acc ++ [(t, body)])
def lastOf (acc : List Sec) : Int := if acc.length = 0 then 0 else (ta acc (acc.length - 1)).1
end Go.AX
end
section
set_option linter.unusedSimpArgs false
set_option linter.unusedVariables false
set_option maxRecDepth 100000
namespace Go.AX
open Go
def flatS : List Sec → List Int
  | [] => []
  | s :: r => secB s.1 s.2 ++ flatS r
def asc (last : Int) : List Sec → Prop
  | [] => True
  | s :: r => last < s.1 ∧ s.2.length ≤ 65535 ∧ asc s.1 r
end Go.AX
end
section
set_option linter.unusedSimpArgs false
set_option linter.unusedVariables false
set_option maxRecDepth 100000
namespace Go.AX
open Go
def bl (b : List Int) (i : Nat) : List Int := (b.drop (16 * i)).take 16
def bz (n i : Nat) : Nat := min 16 (n - 16 * i)
def bzI (n : Nat) (a : Int) : Nat := if a < 0 then 0 else bz n a.toNat
theorem bl_len {b : List Int} {i : Nat} : (bl b i).length = bz b.length i := by unfold bl bz; simp
theorem bl_byt {b : List Int} (h : Byt b) (i : Nat) : Byt (bl b i) := (h.drop _).take _
theorem blocks_eq {n : Nat} (h : n ≤ 1000000) : delta_blocks (n : Int) = some (((n + 15) / 16 : Nat) : Int) := by
  unfold delta_blocks delta_blocks_g
  simp only [cond_b, decide_eq_true_eq, Bool.and_eq_true, Bool.not_eq_true', decide_eq_false_iff_not, Bool.or_eq_true, Bool.not_eq_eq_eq_not, Bool.not_true, Bool.not_false, beq_iff_eq, Option.bind_some, Bool.not_not, decide_eq_true_eq, Decidable.not_not, and_true]
  rw [if_pos (by decide), wrap_i64 (x := (n : Int) + 16) (by omega), wrap_i64 (x := (n : Int) + 16 - 1) (by omega), Int.tdiv_eq_ediv_of_nonneg (by omega), wrap_i64 (by omega)]
  congr 1; omega
theorem length_eq28 {n : Nat} (h : n ≤ 1000000) (a : Int) : delta_length ((n : Int), a) = some ((bzI n a : Nat) : Int) := by
  unfold delta_length delta_length_g bzI
  simp only [cond_b, decide_eq_true_eq, Bool.and_eq_true, Bool.not_eq_true', decide_eq_false_iff_not, Bool.or_eq_true, Bool.not_eq_eq_eq_not, Bool.not_true, Bool.not_false, beq_iff_eq, Option.bind_some, Bool.not_not, decide_eq_true_eq, Decidable.not_not, and_true]
  by_cases ha : a < 0
  · rw [if_neg (by omega), if_pos ha]; rfl
  · rw [if_pos ha, if_neg ha, blocks_eq h]
    simp only [Option.bind_some]
    by_cases hb : (((n + 15) / 16 : Nat) : Int) ≤ a
    · rw [if_pos hb]
      congr 1
      unfold bz; omega
    · rw [if_neg hb, wrap_i64 (x := a * 16) (by omega), wrap_i64 (by omega)]
      congr 1
      unfold bz
      split <;> omega
theorem block_eq28 {b : List Int} (h : b.length ≤ 1000000) (i : Nat) : delta_block (b, (i : Int)) = some (bl b i) := by
  unfold delta_block delta_block_g
  dsimp only
  simp only [cond_b, decide_eq_true_eq, Bool.and_eq_true, Bool.not_eq_true', decide_eq_false_iff_not, Bool.or_eq_true, Bool.not_eq_eq_eq_not, Bool.not_true, Bool.not_false, beq_iff_eq, Option.bind_some, Bool.not_not, decide_eq_true_eq, Decidable.not_not, and_true, length_eq28 h]
  have hz : bzI b.length (i : Int) = bz b.length i := by unfold bzI; rw [if_neg (by omega), Int.toNat_natCast]
  rw [hz]
  by_cases h0 : ((bz b.length i : Nat) : Int) = 0
  · rw [if_pos h0]
    have : (bl b i).length = 0 := by rw [bl_len]; omega
    rw [List.eq_nil_of_length_eq_zero this]
  · rw [if_neg h0]
    have hz2 : bz b.length i = min 16 (b.length - 16 * i) := rfl
    rw [wrap_i64 (x := (i : Int) * 16) (by omega), wrap_i64 (by omega), if_pos ⟨⟨by omega, by omega⟩, by omega, by omega⟩]
    congr 1
    unfold bl
    rw [show ((i : Int) * 16 + ((bz b.length i : Nat) : Int)).toNat = 16 * i + bz b.length i by omega, show ((i : Int) * 16).toNat = 16 * i by omega, List.drop_take]
    by_cases hf : 16 ≤ b.length - 16 * i
    · congr 1; omega
    · rw [List.take_of_length_le (by simp; omega), List.take_of_length_le (by simp; omega)]
theorem Equal_eq {x y : List Int} (hx : x.length ≤ 1000000) : Equal_byte (x, y) = some (decide (x = y)) := by
  unfold Equal_byte Equal_byte_g
  simp only [cond_b, decide_eq_true_eq, Bool.and_eq_true, Bool.not_eq_true', decide_eq_false_iff_not, Bool.or_eq_true, Bool.not_eq_eq_eq_not, Bool.not_true, Bool.not_false, beq_iff_eq, Option.bind_some, Bool.not_not, decide_eq_true_eq, Decidable.not_not, and_true]
  by_cases hl : (x.length : Int) = y.length
  · rw [if_neg (fun h => h hl)]
    refine (LOOP_m (fun s => s.1 = x ∧ s.2.1 = y ∧ s.2.2.1 = (x.length : Int) ∧ 0 ≤ s.2.2.2 ∧ s.2.2.2 ≤ (x.length : Int)) (fun s => x.length - s.2.2.2.toNat) (fun s => decide (x.drop s.2.2.2.toNat = y.drop s.2.2.2.toNat)) ?_ ⟨rfl, rfl, rfl, by dsimp only; omega, by dsimp only; omega⟩ (by have := big; dsimp only; omega)).trans (by simp)
    rintro ⟨a, b, n, i⟩ ⟨e1, e2, e3, h2, h3⟩
    dsimp only at *
    subst e1; subst e2; subst e3
    obtain ⟨i, rfl⟩ := Int.eq_ofNat_of_zero_le h2
    have hb1 : i < a.length → a.drop i = a.getD i 0 :: a.drop (i + 1) := fun h => getD_drop h
    have hb2 : i < a.length → b.drop i = b.getD i 0 :: b.drop (i + 1) := fun h => getD_drop (by omega)
    by_cases hi : (i : Int) < a.length
    · rw [if_pos hi, if_pos ⟨h2, hi⟩, if_pos ⟨h2, by omega⟩]
      by_cases hq : a.getD i 0 = b.getD i 0
      · rw [if_neg (show ¬ ¬ Ty.at (.int .u8) a (Int.toNat (i : Int)) = Ty.at (.int .u8) b (Int.toNat (i : Int)) from fun h => h hq), wrap_i64 (by omega)]
        have e6 : ((i : Int) + 1).toNat = i + 1 := by omega
        refine StepOK_inl ⟨by dsimp only; omega, ⟨rfl, rfl, rfl, by dsimp only; omega, by dsimp only; omega⟩, ?_⟩
        dsimp only
        rw [e6, Int.toNat_natCast, hb1 (by omega), hb2 (by omega), hq]
        simp
      · rw [if_pos (show ¬ Ty.at (.int .u8) a (Int.toNat (i : Int)) = Ty.at (.int .u8) b (Int.toNat (i : Int)) from hq)]
        refine StepOK_inr ?_
        dsimp only
        rw [Int.toNat_natCast, hb1 (by omega), hb2 (by omega), decide_eq_false fun e => ?_]
        simp only [List.cons.injEq] at e
        exact hq e.1
    · rw [if_neg hi]
      refine StepOK_inr ?_
      dsimp only
      rw [Int.toNat_natCast, List.drop_of_length_le (by omega), List.drop_of_length_le (by omega)]; simp
  · rw [if_pos hl]
    have : x ≠ y := fun e => hl (by rw [e])
    simp [this]
end Go.AX
end
section
set_option linter.unusedSimpArgs false
set_option linter.unusedVariables false
set_option maxRecDepth 100000
namespace Go.AX
open Go
abbrev DBk := Int × List Int
abbrev tb (l : List DBk) (i : Nat) : DBk := Ty.at (.pr (.int .i64) (.sl (.int .u8))) l i
theorem tb_get {l : List DBk} {i : Nat} : tb l i = l.getD i (0, []) := rfl
theorem tb_drop {l : List DBk} {i : Nat} (h : i < l.length) : l.drop i = tb l i :: l.drop (i + 1) := by
  rw [tb_get, List.getD_eq_getElem?_getD, List.getElem?_eq_getElem h, Option.getD_some]; exact List.drop_eq_getElem_cons h
def rightL (n : Nat) : Int → List DBk → Bool
  | _, [] => true
  | last, x :: r => if last < x.1 ∧ ¬ x.2.length = 0 ∧ x.2.length = bzI n x.1 then rightL n x.1 r else false
theorem rightL_yes {n : Nat} {last : Int} {x : DBk} {r : List DBk} (h : last < x.1 ∧ ¬ x.2.length = 0 ∧ x.2.length = bzI n x.1) : rightL n last (x :: r) = rightL n x.1 r := by rw [rightL, if_pos h]
theorem rightL_no {n : Nat} {last : Int} {x : DBk} {r : List DBk} (h : ¬ (last < x.1 ∧ ¬ x.2.length = 0 ∧ x.2.length = bzI n x.1)) : rightL n last (x :: r) = false := by rw [rightL, if_neg h]
def RightS (b n : Int) (l : List DBk) : Bool := if (0 ≤ b ∧ b ≤ 65535) ∧ 0 ≤ n ∧ n ≤ 65535 then rightL n.toNat (-1) l else false
theorem within_eq (n : Int) : delta_within n = some (decide (0 ≤ n ∧ n ≤ 65535)) := by
  unfold delta_within delta_within_g
  simp only [cond_b, decide_eq_true_eq, Bool.and_eq_true, Bool.not_eq_true', decide_eq_false_iff_not, Bool.or_eq_true, Bool.not_eq_eq_eq_not, Bool.not_true, Bool.not_false, beq_iff_eq, Option.bind_some, Bool.not_not, decide_eq_true_eq, Decidable.not_not, and_true]
  by_cases h : 0 ≤ n
  · rw [if_pos h]; simp [h]
  · rw [if_neg h]; simp [h]
theorem sRight_eq {b bs n sm : Int} {l : List DBk} (hl : l.length ≤ 1000000) : delta_Right (b, bs, n, sm, l) = some (RightS b n l) := by
  unfold delta_Right delta_Right_g RightS
  dsimp only
  simp only [cond_b, decide_eq_true_eq, Bool.and_eq_true, Bool.not_eq_true', decide_eq_false_iff_not, Bool.or_eq_true, Bool.not_eq_eq_eq_not, Bool.not_true, Bool.not_false, beq_iff_eq, Option.bind_some, Bool.not_not, decide_eq_true_eq, Decidable.not_not, and_true, within_eq]
  by_cases hb : 0 ≤ b ∧ b ≤ 65535
  · rw [if_pos (by simp [hb])]
    by_cases hn : 0 ≤ n ∧ n ≤ 65535
    · rw [if_neg (by simp [hn]), if_pos ⟨hb, hn⟩]
      obtain ⟨n, rfl⟩ := Int.eq_ofNat_of_zero_le hn.1
      refine (LOOP_m (fun s => s.1.2.1 = l ∧ s.1.2.2.1 = (l.length : Int) ∧ s.2.2.2.1 = (n : Int) ∧ 0 ≤ s.1.2.2.2 ∧ s.1.2.2.2 ≤ (l.length : Int)) (fun s => l.length - s.1.2.2.2.toNat) (fun s => rightL n s.1.1 (l.drop s.1.2.2.2.toNat)) ?_ ⟨rfl, rfl, rfl, by dsimp only; omega, by dsimp only; omega⟩ (by have := big; dsimp only; omega)).trans (by simp)
      rintro ⟨⟨last, a, m, i⟩, u1, u2, k, u3, u4⟩ ⟨e1, e2, e3, h2, h3⟩
      dsimp only at *
      subst e1; subst e2; subst e3
      obtain ⟨i, rfl⟩ := Int.eq_ofNat_of_zero_le h2
      by_cases hi : (i : Int) < a.length
      · have hlt : i < a.length := by omega
        have hdr : a.drop i = Ty.at (.pr (.int .i64) (.sl (.int .u8))) a (Int.toNat (i : Int)) :: a.drop (i + 1) := tb_drop hlt
        have bad : ¬ (@LT.lt Int _ last (Ty.at (.pr (.int .i64) (.sl (.int .u8))) a (Int.toNat (i : Int))).1 ∧ ¬ (Ty.at (.pr (.int .i64) (.sl (.int .u8))) a (Int.toNat (i : Int))).2.length = 0 ∧ (Ty.at (.pr (.int .i64) (.sl (.int .u8))) a (Int.toNat (i : Int))).2.length = bzI n (Ty.at (.pr (.int .i64) (.sl (.int .u8))) a (Int.toNat (i : Int))).1) → false = rightL n last (a.drop (Int.toNat (i : Int))) := by
          intro h
          rw [Int.toNat_natCast, hdr, rightL_no h]
        rw [if_pos hi, if_pos ⟨h2, hi⟩]
        by_cases c1 : @LE.le Int _ (Ty.at (.pr (.int .i64) (.sl (.int .u8))) a (Int.toNat (i : Int))).1 last
        · rw [if_neg (fun h => h c1)]
          exact StepOK_inr (bad fun h => by omega)
        · rw [if_pos c1]
          by_cases c2 : ((Ty.at (.pr (.int .i64) (.sl (.int .u8))) a (Int.toNat (i : Int))).2.length : Int) = 0
          · rw [if_neg (fun h => h c2)]
            exact StepOK_inr (bad fun h => by omega)
          · rw [if_pos c2, length_eq28 (by omega)]
            simp only [Option.bind_some]
            by_cases c3 : ((Ty.at (.pr (.int .i64) (.sl (.int .u8))) a (Int.toNat (i : Int))).2.length : Int) = ((bzI n (Ty.at (.pr (.int .i64) (.sl (.int .u8))) a (Int.toNat (i : Int))).1 : Nat) : Int)
            · rw [if_neg (fun h => h c3), wrap_i64 (by omega)]
              have e6 : ((i : Int) + 1).toNat = i + 1 := by omega
              refine StepOK_inl ⟨by dsimp only; omega, ⟨rfl, rfl, rfl, by dsimp only; omega, by dsimp only; omega⟩, ?_⟩
              dsimp only
              have hyes : @LT.lt Int _ last (Ty.at (.pr (.int .i64) (.sl (.int .u8))) a (Int.toNat (i : Int))).1 ∧ ¬ (Ty.at (.pr (.int .i64) (.sl (.int .u8))) a (Int.toNat (i : Int))).2.length = 0 ∧ (Ty.at (.pr (.int .i64) (.sl (.int .u8))) a (Int.toNat (i : Int))).2.length = bzI n (Ty.at (.pr (.int .i64) (.sl (.int .u8))) a (Int.toNat (i : Int))).1 := ⟨by omega, by omega, by omega⟩
              rw [e6, Int.toNat_natCast, hdr, rightL_yes hyes]
              rfl
            · rw [if_pos c3]
              exact StepOK_inr (bad fun h => by omega)
      · rw [if_neg hi]
        refine StepOK_inr ?_
        dsimp only
        rw [Int.toNat_natCast, List.drop_of_length_le (by omega)]; rfl
    · rw [if_pos (by simp; omega), if_neg (fun h => hn h.2)]
  · rw [if_neg (by simp; omega), if_neg (fun h => hb h.1)]
end Go.AX
end
section
set_option linter.unusedSimpArgs false
set_option linter.unusedVariables false
set_option maxRecDepth 100000
namespace Go.AX
open Go
def fnd : List DBk → Int → Option (List Int)
  | [], _ => none
  | x :: r, a => if x.1 = a then some x.2 else fnd r a
theorem fnd_yes {l : List DBk} {a : Int} : ∀ {k : Nat}, k < l.length → (tb l k).1 = a → (∀ j, j < k → (tb l j).1 ≠ a) → fnd l a = some (tb l k).2 := by
  induction l with
  | nil => intro k h; simp at h
  | cons x r ih =>
    intro k h h1 h2
    cases k with
    | zero =>
      have h1 : x.1 = a := h1
      rw [fnd, if_pos h1]; rfl
    | succ k =>
      have h0 : ¬ x.1 = a := h2 0 (by omega)
      rw [fnd, if_neg h0]
      exact ih (by simpa using h) h1 fun j hj => h2 (j + 1) (by omega)
theorem fnd_no {l : List DBk} {a : Int} (h : ∀ j, j < l.length → (tb l j).1 ≠ a) : fnd l a = none := by
  induction l with
  | nil => rfl
  | cons x r ih =>
    have h0 : ¬ x.1 = a := h 0 (by simp)
    rw [fnd, if_neg h0]
    exact ih fun j hj => h (j + 1) (by simpa using hj)
theorem Compare_eq (a b : Int) : cmp_Compare_int (a, b) = some (if a < b then -1 else if b < a then 1 else 0) := by
  unfold cmp_Compare_int cmp_Compare_int_g cmp_isNaN_int cmp_isNaN_int_g
  simp only [cond_b, decide_eq_true_eq, Bool.and_eq_true, Bool.not_eq_true', decide_eq_false_iff_not, Bool.or_eq_true, Bool.not_eq_eq_eq_not, Bool.not_true, Bool.not_false, beq_iff_eq, Option.bind_some, Bool.not_not, decide_eq_true_eq, Decidable.not_not, and_true, decide_true]
  rw [if_neg (by decide), if_neg (by decide)]
  by_cases h : a < b
  · rw [if_pos h, if_pos h]
  · rw [if_neg h, if_neg h]
    by_cases g : b < a
    · rw [if_pos g, if_pos g]
    · rw [if_neg g, if_neg g]
def Asc (l : List DBk) : Prop := ∀ i j, i < j → j < l.length → (tb l i).1 < (tb l j).1
theorem Asc_of {n : Nat} : ∀ {l : List DBk} {last : Int}, rightL n last l = true → Asc l ∧ ∀ i, i < l.length → last < (tb l i).1
  | [], _, _ => ⟨fun i j _ h => by simp at h, fun i h => by simp at h⟩
  | x :: r, last, h => by
    rw [rightL] at h
    split at h
    · rename_i hc
      obtain ⟨g1, g2⟩ := Asc_of h
      refine ⟨fun i j hij hj => ?_, fun i hi => ?_⟩
      · cases j with
        | zero => omega
        | succ j =>
          cases i with
          | zero => exact g2 j (by simpa using hj)
          | succ i => exact g1 i j (by omega) (by simpa using hj)
      · cases i with
        | zero => exact hc.1
        | succ i => exact Int.lt_trans hc.1 (g2 i (by simpa using hi))
    · cases h
theorem half {i j : Nat} (h : i + j ≤ 1000000000) : IntKind.i64.wrap ((IntKind.u64.wrap (IntKind.i64.wrap ((i : Int) + (j : Int)))).fdiv (2 ^ (min (Int.toNat 1) IntKind.u64.bits))) = (((i + j) / 2 : Nat) : Int) := by
  rw [wrap_i64 (x := (i : Int) + (j : Int)) (by omega), IntKind.wrap_u64, show ((i : Int) + j) % 18446744073709551616 = (i : Int) + j by omega, sh ((i : Int) + j) (min (Int.toNat 1) IntKind.u64.bits) 2 (by decide) (by decide), wrap_i64 (by omega)]
  omega
theorem sfind_eq {b bs n sm : Int} {l : List DBk} (hl : l.length ≤ 1000000) (hA : Asc l) (a : Int) : delta_find ((b, bs, n, sm, l), a) = some (match fnd l a with | some x => (x, true) | none => ([], false)) := by
  have hs : ∃ r, BinarySearch_Block (l, a) = some r ∧ ((∃ k : Nat, r = ((k : Int), true) ∧ k < l.length ∧ (tb l k).1 = a) ∨ (r.2 = false ∧ ∀ j, j < l.length → (tb l j).1 ≠ a)) := by
    unfold BinarySearch_Block BinarySearch_Block_g find_cmp find_cmp_g
    dsimp only
    simp only [cond_b, decide_eq_true_eq, Bool.and_eq_true, Bool.not_eq_true', decide_eq_false_iff_not, Bool.or_eq_true, Bool.not_eq_eq_eq_not, Bool.not_true, Bool.not_false, beq_iff_eq, Option.bind_some, Bool.not_not, decide_eq_true_eq, Decidable.not_not, and_true, Compare_eq]
    have hloop := LOOP_ex (σ := List DBk × Int × Int × Int × Int) (O := (List DBk × Int × Int × Int) ⊕ (Int × Bool))
      (f := fun x => match x with | (x3, x4, x5, x6, x7) => if x6 < x7 then if 0 ≤ (1 : Int) then if 0 ≤ IntKind.i64.wrap ((IntKind.u64.wrap (IntKind.i64.wrap (x6 + x7))).fdiv (2 ^ (min (Int.toNat 1) IntKind.u64.bits))) ∧ IntKind.i64.wrap ((IntKind.u64.wrap (IntKind.i64.wrap (x6 + x7))).fdiv (2 ^ (min (Int.toNat 1) IntKind.u64.bits))) < x3.length then (if (if @LT.lt Int _ (Ty.at (.pr (.int .i64) (.sl (.int .u8))) x3 (IntKind.i64.wrap ((IntKind.u64.wrap (IntKind.i64.wrap (x6 + x7))).fdiv (2 ^ (min (Int.toNat 1) IntKind.u64.bits)))).toNat).1 x4 then (-1 : Int) else if @LT.lt Int _ x4 (Ty.at (.pr (.int .i64) (.sl (.int .u8))) x3 (IntKind.i64.wrap ((IntKind.u64.wrap (IntKind.i64.wrap (x6 + x7))).fdiv (2 ^ (min (Int.toNat 1) IntKind.u64.bits)))).toNat).1 then 1 else 0) < 0 then some (.inl (x3, x4, x5, IntKind.i64.wrap (IntKind.i64.wrap ((IntKind.u64.wrap (IntKind.i64.wrap (x6 + x7))).fdiv (2 ^ (min (Int.toNat 1) IntKind.u64.bits))) + 1), x7)) else some (.inl (x3, x4, x5, x6, IntKind.i64.wrap ((IntKind.u64.wrap (IntKind.i64.wrap (x6 + x7))).fdiv (2 ^ (min (Int.toNat 1) IntKind.u64.bits)))))) else none else none else some (.inr (.inl (x3, x4, x5, x6))))
      (s := (l, a, (l.length : Int), 0, (l.length : Int)))
      (fun s => s.1 = l ∧ s.2.1 = a ∧ s.2.2.1 = (l.length : Int) ∧ 0 ≤ s.2.2.2.1 ∧ s.2.2.2.1 ≤ s.2.2.2.2 ∧ s.2.2.2.2 ≤ (l.length : Int) ∧ (∀ k : Nat, (k : Int) < s.2.2.2.1 → (tb l k).1 < a) ∧ ∀ k : Nat, s.2.2.2.2 ≤ (k : Int) → k < l.length → a ≤ (tb l k).1)
      (fun s => (s.2.2.2.2 - s.2.2.2.1).toNat)
      (fun o => ∃ i : Nat, o = .inl (l, a, (l.length : Int), (i : Int)) ∧ i ≤ l.length ∧ (∀ k : Nat, k < i → (tb l k).1 < a) ∧ ∀ k : Nat, i ≤ k → k < l.length → a ≤ (tb l k).1)
      ?_ ⟨rfl, rfl, rfl, by dsimp only; omega, by dsimp only; omega, by dsimp only; omega, fun k h => by dsimp only at h; omega, fun k h h' => by dsimp only at h; omega⟩ (by have := big; dsimp only; omega)
    · obtain ⟨o, ho, i, rfl, hi, g1, g2⟩ := hloop
      rw [ho]
      simp only [Option.bind_some]
      by_cases hil : (i : Int) < l.length
      · rw [if_pos hil, if_pos ⟨by omega, hil⟩]
        refine ⟨_, rfl, ?_⟩
        have hge := g2 i (Nat.le_refl _) (by omega)
        by_cases he : (tb l i).1 = a
        · refine .inl ⟨i, ?_, by omega, he⟩
          have : ((if @LT.lt Int _ (Ty.at (.pr (.int .i64) (.sl (.int .u8))) l (Int.toNat (i : Int))).1 a then (-1 : Int) else if @LT.lt Int _ a (Ty.at (.pr (.int .i64) (.sl (.int .u8))) l (Int.toNat (i : Int))).1 then 1 else 0) = 0) := by
            have n1 : ¬ @LT.lt Int _ (Ty.at (.pr (.int .i64) (.sl (.int .u8))) l (Int.toNat (i : Int))).1 a := show ¬ @LT.lt Int _ (tb l i).1 a by omega
            have n2 : ¬ @LT.lt Int _ a (Ty.at (.pr (.int .i64) (.sl (.int .u8))) l (Int.toNat (i : Int))).1 := show ¬ @LT.lt Int _ a (tb l i).1 by omega
            rw [if_neg n1, if_neg n2]
          rw [decide_eq_true this]
        · refine .inr ⟨?_, fun j hj => ?_⟩
          · have : ¬ ((if @LT.lt Int _ (Ty.at (.pr (.int .i64) (.sl (.int .u8))) l (Int.toNat (i : Int))).1 a then (-1 : Int) else if @LT.lt Int _ a (Ty.at (.pr (.int .i64) (.sl (.int .u8))) l (Int.toNat (i : Int))).1 then 1 else 0) = 0) := by
              have n1 : ¬ @LT.lt Int _ (Ty.at (.pr (.int .i64) (.sl (.int .u8))) l (Int.toNat (i : Int))).1 a := show ¬ @LT.lt Int _ (tb l i).1 a by omega
              have n2 : @LT.lt Int _ a (Ty.at (.pr (.int .i64) (.sl (.int .u8))) l (Int.toNat (i : Int))).1 := show @LT.lt Int _ a (tb l i).1 by omega
              rw [if_neg n1, if_pos n2]
              decide
            exact decide_eq_false this
          · by_cases hji : j < i
            · have := g1 j hji; omega
            · by_cases hje : j = i
              · subst hje; exact he
              · have := hA i j (by omega) hj; omega
      · rw [if_neg hil]
        refine ⟨_, rfl, .inr ⟨rfl, fun j hj => ?_⟩⟩
        have := g1 j (by omega); omega
    · rintro ⟨m, c, u, i, j⟩ ⟨e1, e2, e3, h1, h2, h3, g1, g2⟩
      dsimp only at *
      subst e1; subst e2; subst e3
      obtain ⟨i, rfl⟩ := Int.eq_ofNat_of_zero_le h1
      obtain ⟨j, rfl⟩ := Int.eq_ofNat_of_zero_le (show 0 ≤ j by omega)
      by_cases hij : (i : Int) < j
      · refine .inr ?_
        rw [half (by omega), if_pos hij, if_pos (by decide), if_pos ⟨by omega, by omega⟩]
        by_cases hc : (tb m ((i + j) / 2)).1 < c
        · refine ⟨(m, c, (m.length : Int), (((i + j) / 2 + 1 : Nat) : Int), (j : Int)), ?_, ?_, ?_⟩
          · rw [if_pos (show @LT.lt Int _ (Ty.at (.pr (.int .i64) (.sl (.int .u8))) m (Int.toNat (((i + j) / 2 : Nat) : Int))).1 c from hc), if_pos (by decide), wrap_i64 (by omega)]
            rfl
          · dsimp only; omega
          · refine ⟨rfl, rfl, rfl, by dsimp only; omega, by dsimp only; omega, by dsimp only; omega, fun k hk => ?_, g2⟩
            dsimp only at hk
            by_cases hke : k = (i + j) / 2
            · rw [hke]; exact hc
            · exact Int.lt_trans (hA k ((i + j) / 2) (by omega) (by omega)) hc
        · refine ⟨(m, c, (m.length : Int), (i : Int), (((i + j) / 2 : Nat) : Int)), ?_, ?_, ?_⟩
          · rw [if_neg (show ¬ @LT.lt Int _ (Ty.at (.pr (.int .i64) (.sl (.int .u8))) m (Int.toNat (((i + j) / 2 : Nat) : Int))).1 c from hc), if_neg (by split <;> decide)]
          · dsimp only; omega
          · refine ⟨rfl, rfl, rfl, by dsimp only; omega, by dsimp only; omega, by dsimp only; omega, g1, fun k hk hkl => ?_⟩
            dsimp only at hk
            by_cases hke : k = (i + j) / 2
            · rw [hke]; omega
            · have := hA ((i + j) / 2) k (by omega) hkl; omega
      · refine .inl ⟨_, if_neg hij, i, rfl, by omega, fun k hk => g1 k (by omega), fun k hk hkl => g2 k (by omega) hkl⟩
  unfold delta_find delta_find_g
  dsimp only
  obtain ⟨r, hr, ⟨k, rfl, hk, he⟩ | ⟨hf, hno⟩⟩ := hs
  · rw [hr]
    simp only [cond_b, decide_eq_true_eq, Bool.and_eq_true, Bool.not_eq_true', decide_eq_false_iff_not, Bool.or_eq_true, Bool.not_eq_eq_eq_not, Bool.not_true, Bool.not_false, beq_iff_eq, Option.bind_some, Bool.not_not, decide_eq_true_eq, Decidable.not_not, and_true]
    have hfy := fnd_yes hk he fun j hj => by have := hA j k hj hk; omega
    rw [if_neg (by decide), if_pos ⟨by omega, by omega⟩, hfy]
    rfl
  · obtain ⟨r1, r2⟩ := r
    dsimp only at hf
    subst hf
    rw [hr]
    simp only [cond_b, decide_eq_true_eq, Bool.and_eq_true, Bool.not_eq_true', decide_eq_false_iff_not, Bool.or_eq_true, Bool.not_eq_eq_eq_not, Bool.not_true, Bool.not_false, beq_iff_eq, Option.bind_some, Bool.not_not, decide_eq_true_eq, Decidable.not_not, and_true]
    rw [if_pos (by decide), fnd_no hno]
end Go.AX
end
section
set_option linter.unusedSimpArgs false
set_option linter.unusedVariables false
set_option maxRecDepth 100000
namespace Go.AX
open Go
theorem bind_loop {α β : Type} {x : Option α} {r : α} {k : α → Option β} {y : Option β} (h : x = some r) (h2 : k r = y) : x.bind k = y := by rw [h]; exact h2
def nb (n : Nat) : Nat := (n + 15) / 16
theorem blocks_nb {n : Nat} (h : n ≤ 1000000) : delta_blocks (n : Int) = some ((nb n : Nat) : Int) := by unfold nb; exact blocks_eq h
def diffL (a b : List Int) : Nat → Nat → List DBk
  | _, 0 => []
  | i, k + 1 => if bl b i = bl a i then diffL a b (i + 1) k else ((i : Int), bl b i) :: diffL a b (i + 1) k
def BytL (l : List DBk) : Prop := ∀ x ∈ l, Byt x.2
theorem nb_iff {n i : Nat} (h : n ≤ 1000000) : (i : Int) < ((nb n : Nat) : Int) ↔ 16 * i < n := by unfold nb; omega
theorem sDiff_eq {a b : List Int} (ha : Byt a) (hb : Byt b) (hla : a.length ≤ 65535) (hlb : b.length ≤ 65535) : delta_Diff (a, b) = some ((((a.length : Int), cs a, (b.length : Int), cs b), 0), diffL a b 0 (nb b.length)) := by
  unfold delta_Diff delta_Diff_g
  dsimp only
  simp only [cond_b, decide_eq_true_eq, Bool.and_eq_true, Bool.not_eq_true', decide_eq_false_iff_not, Bool.or_eq_true, Bool.not_eq_eq_eq_not, Bool.not_true, Bool.not_false, beq_iff_eq, Option.bind_some, Bool.not_not, decide_eq_true_eq, Decidable.not_not, and_true, within_eq]
  rw [if_pos (by simp; omega), if_neg (by simp; omega), show crc_Sum a = some (cs a) from crcG_eq ha (by omega), show crc_Sum b = some (cs b) from crcG_eq hb (by omega), blocks_nb (by omega)]
  simp only [Option.bind_some]
  generalize cs a = ca
  generalize cs b = cb
  have hN4 : nb b.length ≤ 4096 := by unfold nb; omega
  have hiff0 : ∀ i : Nat, (i : Int) < ((nb b.length : Nat) : Int) ↔ 16 * i < b.length := fun i => nb_iff (by omega)
  generalize nb b.length = N at *
  refine Eq.trans (LOOP_m (fun s => s.1.1 = a ∧ s.1.2.1 = b ∧ s.1.2.2.1 = (N : Int) ∧ 0 ≤ s.1.2.2.2 ∧ s.1.2.2.2 ≤ (N : Int) ∧ s.2.2.1 = ((a.length : Int), ca, (b.length : Int), cb) ∧ (s.2.2.2.length : Int) ≤ s.1.2.2.2) (fun s => N - s.1.2.2.2.toNat) (fun s => ((((a.length : Int), ca, (b.length : Int), cb), 0), s.2.2.2 ++ diffL a b s.1.2.2.2.toNat (N - s.1.2.2.2.toNat))) ?_ ⟨rfl, rfl, rfl, by dsimp only; omega, by dsimp only; omega, rfl, by dsimp only; simp⟩ (by have := big; dsimp only; omega)) (by simp)
  rintro ⟨⟨p, q, n, i⟩, ⟨u1, u2, u3, u4⟩, ⟨v1, v2, v3, v4⟩, acc⟩ ⟨e1, e2, e3, h2, h3, e4, h5⟩
  dsimp only at *
  subst e1; subst e2; subst e3
  simp only [Prod.mk.injEq] at e4
  obtain ⟨rfl, rfl, rfl, rfl⟩ := e4
  obtain ⟨i, rfl⟩ := Int.eq_ofNat_of_zero_le h2
  
  by_cases hi : (i : Int) < (N : Int)
  · have hk : N - i = (N - (i + 1)) + 1 := by omega
    rw [if_pos hi, block_eq28 (by omega), block_eq28 (by omega)]
    have hbl : (bl q i).length ≤ 16 := by rw [bl_len]; unfold bz; omega
    simp only [Option.bind_some]
    rw [Equal_eq (by omega)]
    simp only [Option.bind_some]
    have e6 : ((i : Int) + 1).toNat = i + 1 := by omega
    by_cases hq : bl q i = bl p i
    · rw [if_neg (by simp [hq]), wrap_i64 (by omega)]
      refine StepOK_inl ⟨by dsimp only; omega, ⟨rfl, rfl, rfl, by dsimp only; omega, by dsimp only; omega, rfl, by dsimp only; omega⟩, ?_⟩
      dsimp only
      rw [e6, Int.toNat_natCast, hk, diffL, if_pos hq]
    · rw [if_pos (by simp [hq]), Clone_eq (by omega)]
      simp only [Option.bind_some]
      rw [if_pos (by simp only [List.length_cons, List.length_nil]; omega), wrap_i64 (by omega)]
      refine StepOK_inl ⟨by dsimp only; omega, ⟨rfl, rfl, rfl, by dsimp only; omega, by dsimp only; omega, rfl, by dsimp only; simp only [List.length_append, List.length_cons, List.length_nil]; omega⟩, ?_⟩
      dsimp only
      rw [e6, Int.toNat_natCast, hk, diffL, if_neg hq, List.append_assoc]; rfl
  · rw [if_neg hi]
    refine StepOK_inr ?_
    dsimp only
    rw [Int.toNat_natCast, show N - i = 0 by omega, diffL, List.append_nil]
end Go.AX
end
section
set_option linter.unusedSimpArgs false
set_option linter.unusedVariables false
set_option maxRecDepth 100000
namespace Go.AX
open Go
def pk (b : List Int) (l : List DBk) (i : Nat) : List Int := match fnd l (i : Int) with | some x => x | none => bl b i
def appL (b : List Int) (l : List DBk) (n : Nat) : Nat → Nat → List Int → Option (List Int)
  | _, 0, out => some out
  | i, k + 1, out => if (pk b l i).length = bz n i then appL b l n (i + 1) k (out ++ pk b l i) else none
def applyS (b : List Int) (bln bs n sm : Int) (l : List DBk) : Int × List Int :=
  if RightS bln n l = true then (if (b.length : Int) = bln ∧ cs b = bs then (match appL b l n.toNat 0 (nb n.toNat) [] with | none => (3, []) | some o => if cs o = sm then (0, o) else (5, [])) else (9, [])) else (3, [])
theorem fnd_mem {l : List DBk} {a : Int} {x : List Int} (h : fnd l a = some x) : (a, x) ∈ l := by
  induction l with
  | nil => cases h
  | cons y r ih =>
    rw [fnd] at h
    by_cases hq : y.1 = a
    · rw [if_pos hq] at h
      cases h
      rw [← hq]; simp
    · rw [if_neg hq] at h
      simp [ih h]
theorem pk_byt {b : List Int} {l : List DBk} (hb : Byt b) (hl : BytL l) (i : Nat) : Byt (pk b l i) := by
  unfold pk
  cases h : fnd l (i : Int) with
  | none => exact bl_byt hb i
  | some x => exact hl _ (fnd_mem h)
theorem appL_byt {b : List Int} {l : List DBk} {n : Nat} (hb : Byt b) (hl : BytL l) : ∀ {k i : Nat} {out o : List Int}, Byt out → appL b l n i k out = some o → Byt o ∧ o.length ≤ out.length + 16 * k
  | 0, i, out, o, ho, h => by cases h; exact ⟨ho, by omega⟩
  | k + 1, i, out, o, ho, h => by
    rw [appL] at h
    split at h
    · rename_i hc
      obtain ⟨g1, g2⟩ := appL_byt hb hl (ho.app (pk_byt hb hl i)) h
      rw [List.length_append, hc] at g2
      refine ⟨g1, ?_⟩
      have : bz n i ≤ 16 := by unfold bz; omega
      omega
    · cases h
theorem RightS_ok {b n : Int} {l : List DBk} (h : RightS b n l = true) : (0 ≤ b ∧ b ≤ 65535) ∧ (0 ≤ n ∧ n ≤ 65535) ∧ rightL n.toNat (-1) l = true := by
  unfold RightS at h
  split at h
  · rename_i hc
    exact ⟨hc.1, hc.2, h⟩
  · cases h
end Go.AX
end
section
set_option linter.unusedSimpArgs false
set_option linter.unusedVariables false
set_option maxRecDepth 100000
namespace Go.AX
open Go
theorem fnd_diff_lt {a b : List Int} : ∀ {k i j : Nat}, j < i → fnd (diffL a b i k) (j : Int) = none
  | 0, i, j, h => rfl
  | k + 1, i, j, h => by
    rw [diffL]
    split
    · exact fnd_diff_lt (by omega)
    · rw [fnd, if_neg (by dsimp only; omega)]; exact fnd_diff_lt (by omega)
theorem fnd_diff {a b : List Int} : ∀ {k i j : Nat}, i ≤ j → j < i + k → fnd (diffL a b i k) (j : Int) = if bl b j = bl a j then none else some (bl b j)
  | 0, i, j, h, g => by omega
  | k + 1, i, j, h, g => by
    rw [diffL]
    by_cases hj : j = i
    · subst hj
      split
      · exact fnd_diff_lt (by omega)
      · rw [fnd, if_pos rfl]
    · split
      · exact fnd_diff (by omega) (by omega)
      · rw [fnd, if_neg (by dsimp only; omega)]; exact fnd_diff (by omega) (by omega)
theorem pk_diff {a b : List Int} {k j : Nat} (h : j < k) : pk a (diffL a b 0 k) j = bl b j := by
  unfold pk
  rw [fnd_diff (by omega) (by omega)]
  by_cases hq : bl b j = bl a j
  · rw [if_pos hq]; exact hq.symm
  · rw [if_neg hq]
theorem bl_split (c : List Int) (i : Nat) : bl c i ++ c.drop (16 * (i + 1)) = c.drop (16 * i) := by
  unfold bl
  rw [show 16 * (i + 1) = 16 * i + 16 by omega, ← List.drop_drop, List.take_append_drop]
theorem appL_of {b c : List Int} {l : List DBk} : ∀ {k i : Nat} {out : List Int}, (∀ j, i ≤ j → j < i + k → pk b l j = bl c j) → c.length ≤ 16 * (i + k) → appL b l c.length i k out = some (out ++ c.drop (16 * i))
  | 0, i, out, h, hk => by rw [appL, List.drop_of_length_le (by omega), List.append_nil]
  | k + 1, i, out, h, hk => by
    rw [appL, h i (by omega) (by omega), if_pos bl_len, appL_of (fun j h1 h2 => h j (by omega) (by omega)) (by omega), List.append_assoc, bl_split]
theorem nb_ge (n : Nat) : n ≤ 16 * nb n := by unfold nb; omega
theorem nb_lt {n i : Nat} : i < nb n ↔ 16 * i < n := by unfold nb; omega
theorem appL_diff {a b : List Int} : appL a (diffL a b 0 (nb b.length)) b.length 0 (nb b.length) [] = some b := by
  rw [appL_of (c := b) (fun j _ h => pk_diff (by omega)) (by have := nb_ge b.length; omega)]
  simp
theorem bzI_nat {n i : Nat} : bzI n (i : Int) = bz n i := by unfold bzI; rw [if_neg (by omega), Int.toNat_natCast]
theorem right_diff {a b : List Int} : ∀ {k i : Nat} {last : Int}, last < (i : Int) → i + k ≤ nb b.length → rightL b.length last (diffL a b i k) = true
  | 0, i, last, h, hk => rfl
  | k + 1, i, last, h, hk => by
    rw [diffL]
    split
    · exact right_diff (by omega) (by omega)
    · have h16 : 16 * i < b.length := nb_lt.1 (by omega)
      have hz : bz b.length i ≠ 0 := by unfold bz; omega
      rw [rightL, if_pos ⟨h, by rw [bl_len]; exact hz, by rw [bl_len, bzI_nat]⟩]
      exact right_diff (by dsimp only; omega) (by omega)
def cpx (a b : List DBk) (n j : Nat) : Option (List Int) := match fnd b (j : Int) with
  | some x => some x
  | none => match fnd a (j : Int) with | some x => if x.length = bz n j then some x else none | none => none
def compL (a b : List DBk) (n : Nat) : Nat → Nat → List DBk
  | _, 0 => []
  | i, k + 1 => match cpx a b n i with | some x => ((i : Int), x) :: compL a b n (i + 1) k | none => compL a b n (i + 1) k
end Go.AX
end
section
set_option linter.unusedSimpArgs false
set_option linter.unusedVariables false
set_option maxRecDepth 100000
namespace Go.AX
open Go
theorem sApply_eq {b : List Int} {bln bs n sm : Int} {l : List DBk} (hb : Byt b) (hlb : b.length ≤ 70000) (hl : BytL l) (hll : l.length ≤ 1000000) : delta_Apply (b, bln, bs, n, sm, l) = some (applyS b bln bs n sm l) := by
  unfold delta_Apply delta_Apply_g applyS
  dsimp only
  simp only [cond_b, decide_eq_true_eq, Bool.and_eq_true, Bool.not_eq_true', decide_eq_false_iff_not, Bool.or_eq_true, Bool.not_eq_eq_eq_not, Bool.not_true, Bool.not_false, beq_iff_eq, Option.bind_some, Bool.not_not, decide_eq_true_eq, Decidable.not_not, and_true, sRight_eq hll]
  by_cases hR : RightS bln n l = true
  · obtain ⟨_, hn, hrl⟩ := RightS_ok hR
    have hA := (Asc_of hrl).1
    rw [if_neg (by rw [hR]; decide), if_pos hR]
    by_cases h1 : (b.length : Int) = bln
    · rw [if_pos h1, show crc_Sum b = some (cs b) from crcG_eq hb (by omega)]
      simp only [Option.bind_some]
      by_cases h2 : cs b = bs
      · rw [if_neg (fun h => h h2), if_pos ⟨h1, h2⟩]
        obtain ⟨n, rfl⟩ := Int.eq_ofNat_of_zero_le hn.1
        rw [blocks_nb (by omega)]
        simp only [Int.toNat_natCast, Option.bind_some] at *
        have hnb : nb n ≤ 4096 := by unfold nb; omega
        have hn7 : n ≤ 70000 := by omega
        generalize cs b = cb at *
        generalize nb n = N at *
        refine bind_loop (LOOP_m (fun s => s.1.1 = b ∧ s.1.2.1 = (N : Int) ∧ 0 ≤ s.1.2.2 ∧ s.1.2.2 ≤ (N : Int) ∧ s.2.1 = (bln, bs, (n : Int), sm, l) ∧ (s.2.2.length : Int) ≤ 16 * s.1.2.2) (fun s => N - s.1.2.2.toNat) (fun s => match appL b l n s.1.2.2.toNat (N - s.1.2.2.toNat) s.2.2 with | none => Sum.inr (3, []) | some o => .inl ((bln, bs, (n : Int), sm, l), o)) ?_ ⟨rfl, rfl, by dsimp only; omega, by dsimp only; omega, rfl, by dsimp only; simp⟩ (by have := big; dsimp only; omega)) ?_
        · rintro ⟨⟨c, n0, i⟩, ⟨w1, w2, w3, w4, w5⟩, out⟩ ⟨e1, e0, h2', h3, e2, h5⟩
          dsimp only at *
          subst e1; subst e0
          simp only [Prod.mk.injEq] at e2
          obtain ⟨rfl, rfl, rfl, rfl, rfl⟩ := e2
          obtain ⟨i, rfl⟩ := Int.eq_ofNat_of_zero_le h2'
          by_cases hi : (i : Int) < (N : Int)
          · have hk : N - i = (N - (i + 1)) + 1 := by omega
            have e6 : ((i : Int) + 1).toNat = i + 1 := by omega
            rw [if_pos hi, sfind_eq hll hA]
            have hz : bzI n (i : Int) = bz n i := by unfold bzI; rw [if_neg (by omega), Int.toNat_natCast]
            have fin : ∀ x : List Int, x = pk c w5 i → StepOK (σ := (List Int × Int × Int) × (Int × Int × Int × Int × List DBk) × List Int) (O := ((Int × Int × Int × Int × List DBk) × List Int) ⊕ (Int × List Int)) (fun s => s.1.1 = c ∧ s.1.2.1 = (N : Int) ∧ 0 ≤ s.1.2.2 ∧ s.1.2.2 ≤ (N : Int) ∧ s.2.1 = (w1, w2, (n : Int), w4, w5) ∧ (s.2.2.length : Int) ≤ 16 * s.1.2.2) (fun s => N - s.1.2.2.toNat) (fun s => (match appL c w5 n s.1.2.2.toNat (N - s.1.2.2.toNat) s.2.2 with | none => Sum.inr (3, []) | some o => .inl ((w1, w2, (n : Int), w4, w5), o) : ((Int × Int × Int × Int × List DBk) × List Int) ⊕ (Int × List Int))) ((c, (N : Int), (i : Int)), (w1, w2, (n : Int), w4, w5), out)
                ((delta_length ((n : Int), (i : Int))).bind fun x33 => if ¬ (x.length : Int) = x33 then some (.inr (.inr (3, []))) else if (out.length + x.length) * 1 ≤ 140737488355328 then some (.inl ((c, (N : Int), IntKind.i64.wrap ((i : Int) + 1)), (w1, w2, (n : Int), w4, w5), out ++ x)) else none) := by
              intro x hx
              subst hx
              rw [length_eq28 (by omega), hz]
              simp only [Option.bind_some]
              by_cases hc : (pk c w5 i).length = bz n i
              · have hbz : bz n i ≤ 16 := by unfold bz; omega
                rw [if_neg (fun h => h (by omega)), if_pos (by omega), wrap_i64 (by omega)]
                refine StepOK_inl ⟨by dsimp only; omega, ⟨rfl, rfl, by dsimp only; omega, by dsimp only; omega, rfl, by dsimp only; rw [List.length_append]; omega⟩, ?_⟩
                dsimp only
                rw [e6, Int.toNat_natCast, hk, appL, if_pos hc]
              · rw [if_pos (by omega)]
                refine StepOK_inr ?_
                dsimp only
                rw [Int.toNat_natCast, hk, appL, if_neg hc]
            cases hf : fnd w5 (i : Int) with
            | none =>
              dsimp only
              simp only [cond_b, decide_eq_true_eq, Bool.and_eq_true, Bool.not_eq_true', decide_eq_false_iff_not, Bool.or_eq_true, Bool.not_eq_eq_eq_not, Bool.not_true, Bool.not_false, beq_iff_eq, Option.bind_some, Bool.not_not, decide_eq_true_eq, Decidable.not_not, and_true]
              rw [if_pos trivial, block_eq28 (by omega)]
              simp only [Option.bind_some]
              exact fin _ (by unfold pk; rw [hf])
            | some x =>
              dsimp only
              simp only [cond_b, decide_eq_true_eq, Bool.and_eq_true, Bool.not_eq_true', decide_eq_false_iff_not, Bool.or_eq_true, Bool.not_eq_eq_eq_not, Bool.not_true, Bool.not_false, beq_iff_eq, Option.bind_some, Bool.not_not, decide_eq_true_eq, Decidable.not_not, and_true]
              first | rw [if_neg (by decide)] | rw [if_neg not_false]
              simp only [Option.bind_some]
              exact fin _ (by unfold pk; rw [hf])
          · rw [if_neg hi]
            refine StepOK_inr ?_
            dsimp only
            rw [Int.toNat_natCast, show N - i = 0 by omega, appL]
        · simp only [Int.toNat_zero, Nat.sub_zero]
          cases ho : appL b l n 0 N [] with
          | none => rfl
          | some o =>
            obtain ⟨g1, g2⟩ := appL_byt hb hl (fun x hx => by cases hx) ho
            rw [List.length_nil] at g2
            simp only [show crc_Sum o = some (cs o) from crcG_eq g1 (by omega), Option.bind_some]
            by_cases h3 : cs o = sm
            · rw [if_neg (fun h => h h3), if_pos h3]
            · rw [if_pos h3, if_neg h3]
      · rw [if_pos h2, if_neg (fun h => h2 h.2)]
    · rw [if_neg h1, if_neg (fun h => h1 h.1)]
  · rw [if_pos (by cases h : RightS bln n l <;> simp_all), if_neg hR]
end Go.AX
end
section
set_option linter.unusedSimpArgs false
set_option linter.unusedVariables false
set_option maxRecDepth 100000
namespace Go.AX
open Go
def zig (n : Int) : Int := if n < 0 then -2 * n - 1 else 2 * n
def zag (u : Int) : Int := if u % 2 = 1 then -(u / 2) - 1 else u / 2
def nB (n : Int) : List Int := vB (zig n).toNat
def nR (r : List Int) : Option (Int × List Int) := match vR 0 r with | .inl _ => none | .inr (v, k) => some (zag v, r.drop k)
abbrev D4 := Int × Int × Int × Int
def hR (r : List Int) : Option D4 := match nR r with
  | none => none
  | some (n, r1) => match nR r1 with
    | none => none
    | some (m, r2) => if r2.length = 8 ∧ 0 ≤ m ∧ m ≤ 65535 then some (n, leV (r2.take 4), m, leV (r2.drop 4)) else none
def hB (d : D4) : List Int := nB d.1 ++ (nB d.2.2.1 ++ (leB 4 d.2.1 ++ leB 4 d.2.2.2))
def bR (n : Nat) : Nat → List Int → List DBk → Option (List DBk × List Int)
  | 0, r, acc => some (acc, r)
  | k + 1, r, acc => match nR r with
    | none => none
    | some (a, r1) => if r1.length < bzI n a then none else bR n k (r1.drop (bzI n a)) (acc ++ [(a, r1.take (bzI n a))])
def bB : List DBk → List Int
  | [] => []
  | x :: l => nB x.1 ++ (x.2 ++ bB l)
def restB (l : List DBk) : List Int := nB (l.length : Int) ++ bB l
abbrev DD := D4 × List DBk
def encS (d : DD) : Int × List Int := if RightS d.1.1 d.1.2.2.1 d.2 = true then allS 0 [(1, hB d.1), (2, restB d.2)] [] else (3, [])
def restR (d : D4) (r : List Int) : Option DD := match nR r with
  | none => none
  | some (many, r1) => if 0 ≤ many ∧ many ≤ 5000 then (match bR d.2.2.1.toNat many.toNat r1 [] with | none => none | some (L, s) => if s.length = 0 ∧ RightS d.1 d.2.2.1 L = true then some (d, L) else none) else none
def bodyR : List Sec → Option DD
  | [(1, x), (2, y)] => match hR x with | none => none | some d => restR d y
  | _ => none
def decS (b : List Int) : Int ⊕ DD := match lS b.length 0 b [] with
  | (e, l) => if e = 0 then (match bodyR l with | none => .inl 3 | some d => .inr d) else .inl e
end Go.AX
end
section
set_option linter.unusedSimpArgs false
set_option linter.unusedVariables false
set_option maxRecDepth 100000
namespace Go.AX
open Go
def fa (a b : List DBk) (n : Nat) : List DBk := a.filter fun x => (fnd b x.1).isNone && decide (x.2.length = bzI n x.1)
abbrev SAsc (l : List DBk) : Prop := l.Pairwise fun x y => x.1 < y.1
abbrev apS (b : List Int) (d : DD) : Int × List Int := applyS b d.1.1 d.1.2.1 d.1.2.2.1 d.1.2.2.2 d.2
abbrev RtS (d : DD) : Bool := RightS d.1.1 d.1.2.2.1 d.2
def difD (a b : List Int) : DD := (((a.length : Int), cs a, (b.length : Int), cs b), diffL a b 0 (nb b.length))
theorem RightS_of {b n : Int} {l : List DBk} (h1 : 0 ≤ b ∧ b ≤ 65535) (h2 : 0 ≤ n ∧ n ≤ 65535) (h3 : rightL n.toNat (-1) l = true) : RightS b n l = true := by
  unfold RightS; rw [if_pos ⟨h1, h2⟩, h3]
theorem dif_right {a b : List Int} (ha : a.length ≤ 65535) (hb : b.length ≤ 65535) : RtS (difD a b) = true := by
  refine RightS_of (by dsimp only [difD]; omega) (by dsimp only [difD]; omega) ?_
  unfold difD
  dsimp only
  rw [Int.toNat_natCast]
  exact right_diff (by omega) (by omega)
theorem dif_ap {a b : List Int} (ha : a.length ≤ 65535) (hb : b.length ≤ 65535) : apS a (difD a b) = (0, b) := by
  have h := dif_right ha hb
  unfold RtS difD at h
  unfold apS difD applyS
  dsimp only at h ⊢
  rw [if_pos h, if_pos ⟨rfl, rfl⟩, Int.toNat_natCast, appL_diff]
  dsimp only
  rw [if_pos rfl]
def cmpS (c d : DD) : Int × DD := if RtS c = true ∧ RtS d = true then (if c.1.2.2.1 = d.1.1 ∧ c.1.2.2.2 = d.1.2.1 then (0, ((c.1.1, c.1.2.1, d.1.2.2.1, d.1.2.2.2), compL c.2 d.2 d.1.2.2.1.toNat 0 (nb d.1.2.2.1.toNat))) else (9, ((0, 0, 0, 0), []))) else (3, ((0, 0, 0, 0), []))
def chS : List Int → List DD → Int × List Int
  | b, [] => (0, b)
  | b, d :: l => match apS b d with | (e, x) => if e = 0 then chS x l else (e, [])
def difC : List Int → List (List Int) → List DD
  | _, [] => []
  | b, x :: l => difD b x :: difC x l
def lastT : List Int → List (List Int) → List Int
  | b, [] => b
  | _, x :: l => lastT x l
end Go.AX
end
