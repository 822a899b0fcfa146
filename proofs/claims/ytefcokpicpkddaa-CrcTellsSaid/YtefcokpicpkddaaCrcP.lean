/- The plain law of the sum: one byte's step is linear and loses nothing. -/
import Derived.Test.YtefcokpicpkddaaCrcB
set_option linter.unusedSimpArgs false
set_option linter.unusedVariables false
namespace Go.AX
open Go

theorem xor_div2 (a b : Nat) : (a ^^^ b) / 2 = (a / 2) ^^^ (b / 2) := by
  have := Nat.shiftRight_xor_distrib (a := a) (b := b) (i := 1)
  simpa [Nat.shiftRight_eq_div_pow] using this
theorem xor_mod2 (a b : Nat) : (a ^^^ b) % 2 = (a % 2) ^^^ (b % 2) := Nat.xor_mod_two_pow (n := 1)
theorem xor4 (a b c d : Nat) : (a ^^^ b) ^^^ (c ^^^ d) = (a ^^^ c) ^^^ (b ^^^ d) := by
  rw [Nat.xor_assoc, Nat.xor_assoc, ← Nat.xor_assoc b, Nat.xor_comm b c, Nat.xor_assoc]
theorem cd_xor (a b : Nat) : cd (a ^^^ b) = cd a ^^^ cd b := by
  have h := xor_mod2 a b
  unfold cd
  rw [xor_div2]
  have ha : a % 2 = 0 ∨ a % 2 = 1 := by omega
  have hb : b % 2 = 0 ∨ b % 2 = 1 := by omega
  rcases ha with ha | ha <;> rcases hb with hb | hb <;> rw [ha, hb] at h
  · rw [if_neg (by rw [h]; decide), if_neg (by omega), if_neg (by omega)]
  · rw [if_pos (by rw [h]; decide), if_neg (by omega), if_pos (by omega), Nat.xor_assoc]
  · rw [if_pos (by rw [h]; decide), if_pos (by omega), if_neg (by omega), Nat.xor_assoc, Nat.xor_comm (b / 2), Nat.xor_assoc]
  · rw [if_neg (by rw [h]; decide), if_pos (by omega), if_pos (by omega), xor4, Nat.xor_self, Nat.xor_zero]
theorem cdn_xor : ∀ (n a b : Nat), cdn n (a ^^^ b) = cdn n a ^^^ cdn n b
  | 0, _, _ => rfl
  | n + 1, a, b => by simp only [cdn, cd_xor, cdn_xor n]
theorem cdn_high : ∀ (n z : Nat), cdn n (2 ^ n * z) = z
  | 0, z => by simp [cdn]
  | n + 1, z => by
    have h : 2 ^ (n + 1) * z = 2 * (2 ^ n * z) := by rw [Nat.pow_succ, Nat.mul_comm (2 ^ n) 2, Nat.mul_assoc]
    have h1 : cd (2 ^ (n + 1) * z) = 2 ^ n * z := by
      rw [h]; unfold cd; rw [if_neg (by omega)]; omega
    simp only [cdn, h1, cdn_high n]
theorem split8 (y : Nat) : y = (y % 256) ^^^ (2 ^ 8 * (y / 256)) := by
  apply Nat.eq_of_testBit_eq
  intro i
  rw [Nat.testBit_xor, show (256 : Nat) = 2 ^ 8 from rfl, Nat.testBit_mod_two_pow, Nat.testBit_two_pow_mul, Nat.testBit_div_two_pow]
  by_cases h : i < 8
  · simp [h, show ¬ i ≥ 8 by omega]
  · simp [h, show i ≥ 8 by omega, show 8 + (i - 8) = i by omega]
theorem div_xor8 {c x : Nat} (hx : x < 256) : (c ^^^ x) / 256 = c / 256 := by
  have := Nat.shiftRight_xor_distrib (a := c) (b := x) (i := 8)
  simp only [Nat.shiftRight_eq_div_pow, show (2 : Nat) ^ 8 = 256 from rfl] at this
  rw [this, show x / 256 = 0 by omega, Nat.xor_zero]
theorem step_cdn {c x : Nat} (hx : x < 256) : step (cdn 8) c x = cdn 8 (c ^^^ x) := by
  have h := congrArg (cdn 8) (split8 (c ^^^ x))
  rw [cdn_xor 8 ((c ^^^ x) % 256), cdn_high, div_xor8 hx] at h
  exact h.symm
theorem xor_inj_l {a b c : Nat} (h : a ^^^ b = a ^^^ c) : b = c := by
  have := congrArg (a ^^^ ·) h
  simpa [← Nat.xor_assoc] using this
theorem xor_inj_r {a b c : Nat} (h : b ^^^ a = c ^^^ a) : b = c := xor_inj_l (a := a) (by rw [Nat.xor_comm, h, Nat.xor_comm])
theorem xor_zero_eq {a b : Nat} (h : a ^^^ b = 0) : a = b := xor_inj_r (a := b) (by rw [h, Nat.xor_self])
theorem cd_zero {z : Nat} (hz : z < 4294967296) (h : cd z = 0) : z = 0 := by
  unfold cd at h
  split at h
  · have := xor_zero_eq h
    omega
  · omega
theorem cdn_zero : ∀ (n : Nat) {z : Nat}, z < 4294967296 → cdn n z = 0 → z = 0
  | 0, _, _, h => h
  | n + 1, z, hz, h => cd_zero hz (cdn_zero n (cd_lt hz) h)
theorem cdn_inj {n a b : Nat} (ha : a < 4294967296) (hb : b < 4294967296) (h : cdn n a = cdn n b) : a = b := by
  have h1 : cdn n (a ^^^ b) = 0 := by rw [cdn_xor, h, Nat.xor_self]
  exact xor_zero_eq (cdn_zero n (Nat.xor_lt_two_pow (n := 32) ha hb) h1)
theorem lt8 {x : Nat} (h : x < 256) : x < 4294967296 := by omega

/-- Behind the same bytes, what differed differs. -/
theorem upd_inj : ∀ {bs : List Nat} {a b : Nat}, (∀ x ∈ bs, x < 256) → a < 4294967296 → b < 4294967296 → upd (cdn 8) a bs = upd (cdn 8) b bs → a = b
  | [], _, _, _, _, _, h => h
  | x :: r, a, b, hx, ha, hb, h => by
    have hx0 := hx x (by simp)
    have h1 := upd_inj (bs := r) (fun y hy => hx y (by simp [hy])) (step_lt Tab.crc ha) (step_lt Tab.crc hb) h
    rw [step_cdn hx0, step_cdn hx0] at h1
    have ha' : a ^^^ x < 4294967296 := Nat.xor_lt_two_pow (n := 32) ha (lt8 hx0)
    have hb' : b ^^^ x < 4294967296 := Nat.xor_lt_two_pow (n := 32) hb (lt8 hx0)
    exact xor_inj_r (cdn_inj ha' hb' h1)
theorem upd_set : ∀ {bs : List Nat} {i : Nat} {a x : Nat}, (∀ x ∈ bs, x < 256) → x < 256 → a < 4294967296 → (h : i < bs.length) → upd (cdn 8) a (bs.set i x) = upd (cdn 8) a bs → x = bs[i]
  | y :: r, 0, a, x, hbs, hx, ha, _, h => by
    have hy := hbs y (by simp)
    have h1 := upd_inj (bs := r) (fun y hy => hbs y (by simp [hy])) (step_lt Tab.crc ha) (step_lt Tab.crc ha) h
    rw [step_cdn hx, step_cdn hy] at h1
    have ha' : a ^^^ x < 4294967296 := Nat.xor_lt_two_pow (n := 32) ha (lt8 hx)
    have hb' : a ^^^ y < 4294967296 := Nat.xor_lt_two_pow (n := 32) ha (lt8 hy)
    exact xor_inj_l (cdn_inj ha' hb' h1)
  | y :: r, i + 1, a, x, hbs, hx, ha, hi, h => upd_set (bs := r) (fun y hy => hbs y (by simp [hy])) hx (step_lt Tab.crc ha) (by simpa using hi) h
/-- A sum tells of one byte. -/
theorem sum_set {bs : List Nat} {i x : Nat} (hbs : ∀ x ∈ bs, x < 256) (hx : x < 256) (h : i < bs.length) : (sum (bs.set i x) = sum bs) ↔ x = bs[i] := by
  constructor
  · intro he
    exact upd_set hbs hx (by decide) h (xor_inj_r he)
  · rintro rfl
    rw [List.set_getElem_self]

/-- Three rows, put one over the other. -/
theorem step3 (a b c x y z : Nat) (hx : x < 256) (hy : y < 256) (hz : z < 256) : step (cdn 8) (a ^^^ b ^^^ c) (x ^^^ y ^^^ z) = step (cdn 8) a x ^^^ step (cdn 8) b y ^^^ step (cdn 8) c z := by
  have h1 : x ^^^ y < 256 := Nat.xor_lt_two_pow (n := 8) hx hy
  have h2 : x ^^^ y ^^^ z < 256 := Nat.xor_lt_two_pow (n := 8) h1 hz
  rw [step_cdn h2, step_cdn hx, step_cdn hy, step_cdn hz, ← cdn_xor, ← cdn_xor, xor4 (a ^^^ b) c (x ^^^ y) z, xor4 a b x y]
def put3 : List Nat → List Nat → List Nat → List Nat
  | x :: a, y :: b, z :: c => (x ^^^ y ^^^ z) :: put3 a b c
  | _, _, _ => []
theorem upd_put3 : ∀ (xs ys zs : List Nat) (a b c : Nat), (∀ x ∈ xs, x < 256) → (∀ x ∈ ys, x < 256) → (∀ x ∈ zs, x < 256) → xs.length = ys.length → ys.length = zs.length →
    upd (cdn 8) (a ^^^ b ^^^ c) (put3 xs ys zs) = upd (cdn 8) a xs ^^^ upd (cdn 8) b ys ^^^ upd (cdn 8) c zs
  | [], [], [], _, _, _, _, _, _, _, _ => rfl
  | x :: xs, y :: ys, z :: zs, a, b, c, hx, hy, hz, h1, h2 => by
    show upd (cdn 8) (step (cdn 8) (a ^^^ b ^^^ c) (x ^^^ y ^^^ z)) (put3 xs ys zs) = _
    rw [step3 a b c x y z (hx x (by simp)) (hy y (by simp)) (hz z (by simp))]
    exact upd_put3 xs ys zs _ _ _ (fun w h => hx w (by simp [h])) (fun w h => hy w (by simp [h])) (fun w h => hz w (by simp [h])) (by simpa using h1) (by simpa using h2)
theorem sum_put3 (xs ys zs : List Nat) (hx : ∀ x ∈ xs, x < 256) (hy : ∀ x ∈ ys, x < 256) (hz : ∀ x ∈ zs, x < 256) (h1 : xs.length = ys.length) (h2 : ys.length = zs.length) : sum (put3 xs ys zs) = sum xs ^^^ sum ys ^^^ sum zs := by
  have h := upd_put3 xs ys zs 4294967295 4294967295 4294967295 hx hy hz h1 h2
  rw [show (4294967295 ^^^ 4294967295 ^^^ 4294967295 : Nat) = 4294967295 from by decide] at h
  unfold sum
  rw [h, xor4 (upd (cdn 8) 4294967295 xs), Nat.xor_self, Nat.xor_zero, Nat.xor_assoc]

theorem sub_xor {t : Nat} (h : t < 4294967296) : 4294967295 - t = t ^^^ 4294967295 := by
  apply Nat.eq_of_testBit_eq
  intro i
  have h1 : 4294967295 - t = 2 ^ 32 - (t + 1) := by omega
  have h2 : (4294967295 : Nat) = 2 ^ 32 - 1 := by decide
  rw [h1, Nat.testBit_two_pow_sub_succ (by simpa using h), Nat.testBit_xor, h2, Nat.testBit_two_pow_sub_one]
  by_cases hi : i < 32
  · simp [hi]
  · have : t.testBit i = false := Nat.testBit_lt_two_pow (Nat.lt_of_lt_of_le h (Nat.pow_le_pow_right (show 0 < 2 by decide) (show 32 ≤ i by omega)))
    simp [hi, this]

end Go.AX
