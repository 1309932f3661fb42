/- The division of a number of two words, digit by digit: no program in sight. -/
namespace Go.SX

theorem mul_le_mul_left' {a b : Nat} (k : Nat) (h : a ≤ b) : k * a ≤ k * b := Nat.mul_le_mul_left k h

/-- One digit: what the test asks. N = u * 2^32 + d, y = y1 * 2^32 + y0. -/
theorem digit_test {u d y1 y0 q r : Nat} (hr : r + q * y1 = u) : q * y0 ≤ 4294967296 * r + d ↔ q * (y1 * 4294967296 + y0) ≤ u * 4294967296 + d := by
  have e1 : u * 4294967296 = r * 4294967296 + q * y1 * 4294967296 := by rw [← hr, Nat.add_mul]
  have e2 : q * (y1 * 4294967296 + y0) = q * y1 * 4294967296 + q * y0 := by rw [Nat.mul_add, Nat.mul_assoc]
  omega

theorem digit_start {u d y1 y0 : Nat} (hy1 : 0 < y1) (hd : d < 4294967296) : u * 4294967296 + d < (u / y1 + 1) * (y1 * 4294967296 + y0) := by
  have h1 : u < (u / y1 + 1) * y1 := by
    have := Nat.div_add_mod u y1
    have h2 := Nat.mod_lt u hy1
    rw [Nat.add_mul, Nat.one_mul, Nat.mul_comm (u / y1)]
    omega
  have h2 : (u + 1) * 4294967296 ≤ (u / y1 + 1) * y1 * 4294967296 := Nat.mul_le_mul_right _ h1
  rw [Nat.mul_add, ← Nat.mul_assoc]
  omega

/-- A digit that is too great by its size alone is too great. -/
theorem digit_big {u d y q : Nat} (hu : u < y) (hd : d < 4294967296) (hq : 4294967296 ≤ q) : u * 4294967296 + d < q * y := by
  have h1 : (u + 1) * 4294967296 ≤ y * 4294967296 := Nat.mul_le_mul_right _ hu
  have h2 : 4294967296 * y ≤ q * y := Nat.mul_le_mul_right _ hq
  omega

/-- Where the rest has outgrown a word the digit is right. -/
theorem digit_rest {u d y1 y0 q r : Nat} (hr : r + q * y1 = u) (hr2 : 4294967296 ≤ r) (hq : q ≤ 4294967296) (hy0 : y0 < 4294967296) : q * (y1 * 4294967296 + y0) ≤ u * 4294967296 + d := by
  rw [← digit_test hr]
  have h1 : q * y0 ≤ 4294967296 * y0 := Nat.mul_le_mul_right _ hq
  omega

theorem digit_done {N y q : Nat} (h1 : q * y ≤ N) (h2 : N < (q + 1) * y) : q = N / y :=
  (Nat.div_eq_of_lt_le h1 h2).symm

theorem two_digits' (W u d1 d0 y : Nat) (hy : 0 < y) : ((u * W + d1) / y * W + ((u * W + d1) % y * W + d0) / y = (u * (W * W) + (d1 * W + d0)) / y) ∧
    ((u * W + d1) % y * W + d0) % y = (u * (W * W) + (d1 * W + d0)) % y := by
  have e : u * (W * W) + (d1 * W + d0) = ((u * W + d1) % y * W + d0) + y * ((u * W + d1) / y * W) := by
    have h := Nat.div_add_mod (u * W + d1) y
    have h2 : (u * W + d1) * W = (u * W + d1) % y * W + y * ((u * W + d1) / y * W) := by
      conv => lhs; rw [← h]
      rw [Nat.add_mul, Nat.mul_assoc, Nat.add_comm]
    rw [Nat.add_mul, Nat.mul_assoc] at h2
    omega
  rw [e, Nat.add_mul_div_left _ _ hy, Nat.add_mul_mod_self_left]
  exact ⟨by omega, rfl⟩

/-- Two digits make the quotient. -/
theorem two_digits {u d1 d0 y : Nat} (hy : 0 < y) : ((u * 4294967296 + d1) / y * 4294967296 + ((u * 4294967296 + d1) % y * 4294967296 + d0) / y = (u * 18446744073709551616 + (d1 * 4294967296 + d0)) / y) ∧
    ((u * 4294967296 + d1) % y * 4294967296 + d0) % y = (u * 18446744073709551616 + (d1 * 4294967296 + d0)) % y := two_digits' 4294967296 u d1 d0 y hy

/-- The high word, moved up. -/
theorem shift_high {hi lo y s : Nat} (hs : s ≤ 64) (hlo : lo < 18446744073709551616) (hy : y * 2 ^ s < 18446744073709551616) (hh : hi < y) :
    hi * 2 ^ s % 18446744073709551616 = hi * 2 ^ s ∧ lo / 2 ^ (64 - s) < 2 ^ s ∧ hi * 2 ^ s + lo / 2 ^ (64 - s) < y * 2 ^ s ∧
      (hi * 2 ^ s + lo / 2 ^ (64 - s)) * 18446744073709551616 + lo * 2 ^ s % 18446744073709551616 = (hi * 18446744073709551616 + lo) * 2 ^ s := by
  have hp : 2 ^ s * 2 ^ (64 - s) = 18446744073709551616 := by rw [← Nat.pow_add]; rw [show s + (64 - s) = 64 by omega]
  have h1 : (hi + 1) * 2 ^ s ≤ y * 2 ^ s := Nat.mul_le_mul_right _ hh
  rw [Nat.add_mul, Nat.one_mul] at h1
  have h2 : lo / 2 ^ (64 - s) < 2 ^ s := by
    rw [Nat.div_lt_iff_lt_mul (Nat.two_pow_pos _), hp]; exact hlo
  have h3 : lo * 2 ^ s % 18446744073709551616 = lo % 2 ^ (64 - s) * 2 ^ s := by
    rw [← hp, Nat.mul_comm (2 ^ s) (2 ^ (64 - s)), Nat.mul_mod_mul_right]
  have h4 := Nat.div_add_mod lo (2 ^ (64 - s))
  have h5 : lo * 2 ^ s = lo / 2 ^ (64 - s) * 18446744073709551616 + lo % 2 ^ (64 - s) * 2 ^ s := by
    conv => lhs; rw [← h4]
    rw [Nat.add_mul, ← hp, Nat.mul_assoc, Nat.mul_comm (2 ^ (64 - s)), Nat.mul_assoc]
  refine ⟨Nat.mod_eq_of_lt (by omega), h2, by omega, ?_⟩
  rw [h3, Nat.add_mul, Nat.add_mul, h5, Nat.mul_right_comm]
  omega

end Go.SX
