/- Ratios, plainly: what the sum, the difference, the product, the quotient and the order are. No program in sight. -/

namespace Go.SX

structure R where
  n : Int
  d : Int
  deriving DecidableEq

def lim : Nat := 1000000000000000000

/-- A ratio whose parts have nothing in common and are in the range. -/
def R.ok (a : R) : Bool := decide (1 ≤ a.d) && decide (a.d.natAbs ≤ lim) && decide (a.n.natAbs ≤ lim) && decide (Nat.gcd a.n.natAbs a.d.natAbs = 1)

def R.zero : R := ⟨0, 0⟩
def R.of (n : Int) : R := ⟨n, 1⟩

/-- A sign and two numbers that have nothing in common. -/
def mkR (neg : Bool) (num den : Nat) : R × Int :=
  if num ≤ lim ∧ den ≤ lim then (⟨if neg then -(num : Int) else num, den⟩, 0) else (R.zero, 16)

/-- The ratio of a fraction. -/
def norm (n : Int) (d : Nat) : R × Int := mkR (decide (n < 0)) (n.natAbs / Nat.gcd n.natAbs d) (d / Nat.gcd n.natAbs d)

def addR (a b : R) : R × Int := if a.ok && b.ok then norm (a.n * b.d + b.n * a.d) (a.d.natAbs * b.d.natAbs) else (R.zero, 8)
def subR (a b : R) : R × Int := if a.ok && b.ok then norm (a.n * b.d - b.n * a.d) (a.d.natAbs * b.d.natAbs) else (R.zero, 8)
def mulR (a b : R) : R × Int := if a.ok && b.ok then norm (a.n * b.n) (a.d.natAbs * b.d.natAbs) else (R.zero, 8)
def divR (a b : R) : R × Int :=
  if a.ok && b.ok then
    if b.n = 0 then (R.zero, 18) else norm (if b.n < 0 then -(a.n * b.d) else a.n * b.d) (a.d.natAbs * b.n.natAbs)
  else (R.zero, 8)
/-- The order of ratios in the range. -/
def ltR (a b : R) : Bool := decide (a.n * b.d < b.n * a.d)

/-! ### What 'in the range' says -/

theorem R.ok_iff {a : R} : a.ok = true ↔ 1 ≤ a.d ∧ a.d.natAbs ≤ lim ∧ a.n.natAbs ≤ lim ∧ Nat.gcd a.n.natAbs a.d.natAbs = 1 := by
  simp [R.ok, and_assoc]

theorem dvd_nz {g n : Nat} (h : g ∣ n) (hn : 0 < n) : 0 < g := by
  rcases Nat.eq_zero_or_pos g with e | e
  · subst e; rw [Nat.zero_dvd] at h; omega
  · exact e

/-- What has a divisor in common with the sum has one with both denominators. -/
theorem gcd_sum {B' D' g s : Nat} (h1 : Nat.Coprime s B') (h2 : Nat.Coprime s D') : Nat.gcd s (B' * (g * D')) = Nat.gcd s g := by
  rw [Nat.Coprime.gcd_mul_left_cancel_right _ h1.symm, Nat.mul_comm g D', Nat.Coprime.gcd_mul_left_cancel_right _ h2.symm]

theorem natAbs_coprime_add {A C : Int} {B' D' : Nat} (h1 : Nat.Coprime A.natAbs B') (h2 : Nat.Coprime B' D') : Nat.Coprime (A * D' + C * B').natAbs B' := by
  have hk : Nat.Coprime (A * D').natAbs B' := by
    rw [Int.natAbs_mul]
    exact Nat.Coprime.mul_left h1 (by simpa using h2.symm)
  have e : Int.gcd (A * D' + C * B') B' = Int.gcd (A * D') B' := Int.gcd_add_mul_right_left _ _ _
  exact e.trans hk

/-- The sum, as it is reckoned. -/
theorem addR_eq {a b : R} (ha : a.ok = true) (hb : b.ok = true) {g B' D' h : Nat} {s : Int} (hg : g = Nat.gcd a.d.natAbs b.d.natAbs) (hB : B' = a.d.natAbs / g) (hD : D' = b.d.natAbs / g)
    (hs : s = a.n * D' + b.n * B') (hh : h = Nat.gcd s.natAbs g) : addR a b = mkR (decide (s < 0)) (s.natAbs / h) (B' * (b.d.natAbs / h)) := by
  obtain ⟨a1, a2, a3, a4⟩ := R.ok_iff.1 ha
  obtain ⟨b1, b2, b3, b4⟩ := R.ok_iff.1 hb
  have hBp : 0 < a.d.natAbs := by omega
  have hDp : 0 < b.d.natAbs := by omega
  have hgp : 0 < g := by rw [hg]; exact Nat.gcd_pos_of_pos_left _ hBp
  have hgB : g ∣ a.d.natAbs := by rw [hg]; exact Nat.gcd_dvd_left _ _
  have hgD : g ∣ b.d.natAbs := by rw [hg]; exact Nat.gcd_dvd_right _ _
  have eB : a.d.natAbs = g * B' := by rw [hB]; exact (Nat.mul_div_cancel' hgB).symm
  have eD : b.d.natAbs = g * D' := by rw [hD]; exact (Nat.mul_div_cancel' hgD).symm
  have ea : a.d = ((g * B' : Nat) : Int) := by rw [← eB]; omega
  have eb : b.d = ((g * D' : Nat) : Int) := by rw [← eD]; omega
  have cop : Nat.Coprime B' D' := by
    rw [hB, hD, hg]; exact Nat.coprime_div_gcd_div_gcd (by rw [← hg]; exact hgp)
  have c1 : Nat.Coprime s.natAbs B' := by
    rw [hs]
    refine natAbs_coprime_add ?_ cop
    have : Nat.Coprime a.n.natAbs (g * B') := by rw [← eB]; exact a4
    exact this.coprime_mul_left_right
  have c2 : Nat.Coprime s.natAbs D' := by
    rw [hs, Int.add_comm]
    refine natAbs_coprime_add ?_ cop.symm
    have : Nat.Coprime b.n.natAbs (g * D') := by rw [← eD]; exact b4
    exact this.coprime_mul_left_right
  have hnum : a.n * b.d + b.n * a.d = (g : Int) * s := by
    rw [ea, eb, hs]
    simp only [Int.natCast_mul]
    rw [Int.mul_add, Int.mul_left_comm (g : Int) a.n, Int.mul_left_comm (g : Int) b.n]
  have hden : a.d.natAbs * b.d.natAbs = g * (B' * (g * D')) := by rw [eB, eD, Nat.mul_assoc]
  have hgcd : Nat.gcd (a.n * b.d + b.n * a.d).natAbs (a.d.natAbs * b.d.natAbs) = g * h := by
    rw [hnum, hden, Int.natAbs_mul, Int.natAbs_natCast, Nat.gcd_mul_left, gcd_sum c1 c2, hh]
  have hhg : h ∣ g := by rw [hh]; exact Nat.gcd_dvd_right _ _
  have hhp : 0 < h := dvd_nz hhg hgp
  unfold addR norm
  rw [ha, hb]
  simp only [Bool.and_self, if_true]
  rw [hgcd]
  congr 1
  · rw [hnum]
    have : (g : Int) * s < 0 ↔ s < 0 := by
      constructor
      · intro h'
        rcases Int.lt_or_le s 0 with h'' | h''
        · exact h''
        · have := Int.mul_nonneg (Int.natCast_nonneg g) h''; omega
      · intro h'; exact Int.mul_neg_of_pos_of_neg (by omega) h'
    simp only [this]
  · rw [hnum, Int.natAbs_mul, Int.natAbs_natCast, Nat.mul_div_mul_left _ _ hgp]
  · rw [hden, Nat.mul_div_mul_left _ _ hgp, eD]
    obtain ⟨k, hk⟩ := hhg
    rw [hk, Nat.mul_assoc h k, Nat.mul_left_comm B' h, Nat.mul_div_cancel_left _ hhp, Nat.mul_div_cancel_left _ hhp]

/-- The product, as it is reckoned. -/
theorem mul_eq {A C : Int} {B D : Nat} (hB : 0 < B) (hD : 0 < D) (h1 : Nat.gcd A.natAbs B = 1) (h2 : Nat.gcd C.natAbs D = 1) {g h : Nat} (hg : g = Nat.gcd A.natAbs D) (hh : h = Nat.gcd C.natAbs B) :
    norm (A * C) (B * D) = mkR (decide (A * C < 0)) (A.natAbs / g * (C.natAbs / h)) (B / h * (D / g)) := by
  have hgp : 0 < g := by rw [hg]; exact Nat.gcd_pos_of_pos_right _ hD
  have hhp : 0 < h := by rw [hh]; exact Nat.gcd_pos_of_pos_right _ hB
  have gA : g ∣ A.natAbs := by rw [hg]; exact Nat.gcd_dvd_left _ _
  have gD : g ∣ D := by rw [hg]; exact Nat.gcd_dvd_right _ _
  have hC : h ∣ C.natAbs := by rw [hh]; exact Nat.gcd_dvd_left _ _
  have hBd : h ∣ B := by rw [hh]; exact Nat.gcd_dvd_right _ _
  have e1 := Nat.mul_div_cancel' gA
  have e2 := Nat.mul_div_cancel' gD
  have e3 := Nat.mul_div_cancel' hC
  have e4 := Nat.mul_div_cancel' hBd
  have c1 : Nat.Coprime (A.natAbs / g) (D / g) := by rw [hg]; exact Nat.coprime_div_gcd_div_gcd (by rw [← hg]; exact hgp)
  have c2 : Nat.Coprime (C.natAbs / h) (B / h) := by rw [hh]; exact Nat.coprime_div_gcd_div_gcd (by rw [← hh]; exact hhp)
  have c3 : Nat.Coprime (A.natAbs / g) (B / h) := Nat.Coprime.coprime_div_left (Nat.Coprime.coprime_div_right h1 hBd) gA
  have c4 : Nat.Coprime (C.natAbs / h) (D / g) := Nat.Coprime.coprime_div_left (Nat.Coprime.coprime_div_right h2 gD) hC
  have cop : Nat.gcd (A.natAbs / g * (C.natAbs / h)) (B / h * (D / g)) = 1 := Nat.Coprime.mul_left (Nat.Coprime.mul_right c3 c1) (Nat.Coprime.mul_right c2 c4)
  have n1 : (A * C).natAbs = g * h * (A.natAbs / g * (C.natAbs / h)) := by
    rw [Int.natAbs_mul]
    conv => lhs; rw [← e1, ← e3]
    rw [Nat.mul_mul_mul_comm]
  have n2 : B * D = g * h * (B / h * (D / g)) := by
    conv => lhs; rw [← e4, ← e2]
    rw [Nat.mul_mul_mul_comm, Nat.mul_comm h g]
  unfold norm
  rw [n1]
  conv => lhs; rw [n2]
  rw [Nat.gcd_mul_left, cop, Nat.mul_one, Nat.mul_div_cancel_left _ (Nat.mul_pos hgp hhp), Nat.mul_div_cancel_left _ (Nat.mul_pos hgp hhp)]

end Go.SX

/- The division of a number of two words, digit by digit: no program in sight. -/
namespace Go.SX

theorem mul_le_mul_left' {a b : Nat} (k : Nat) (h : a ≤ b) : k * a ≤ k * b := Nat.mul_le_mul_left k h

/-- One digit: what the test asks. N = u * 2^32 + d, y = y1 * 2^32 + y0. -/
theorem digit_test {u d y1 y0 q r : Nat} (hr : r + q * y1 = u) : q * y0 ≤ 4294967296 * r + d ↔ q * (y1 * 4294967296 + y0) ≤ u * 4294967296 + d := by
  have e1 : u * 4294967296 = r * 4294967296 + q * y1 * 4294967296 := by rw [← hr, Nat.add_mul]
  have e2 : q * (y1 * 4294967296 + y0) = q * y1 * 4294967296 + q * y0 := by rw [Nat.mul_add, Nat.mul_assoc]
  omega

theorem digit_start {u d y1 y0 : Nat} (hy1 : 0 < y1) (hd : d < 4294967296) : u * 4294967296 + d < (u / y1 + 1) * (y1 * 4294967296 + y0) := by
  have h1 : u < (u / y1 + 1) * y1 := by
    have := Nat.div_add_mod u y1
    have h2 := Nat.mod_lt u hy1
    rw [Nat.add_mul, Nat.one_mul, Nat.mul_comm (u / y1)]
    omega
  have h2 : (u + 1) * 4294967296 ≤ (u / y1 + 1) * y1 * 4294967296 := Nat.mul_le_mul_right _ h1
  rw [Nat.mul_add, ← Nat.mul_assoc]
  omega

/-- A digit that is too great by its size alone is too great. -/
theorem digit_big {u d y q : Nat} (hu : u < y) (hd : d < 4294967296) (hq : 4294967296 ≤ q) : u * 4294967296 + d < q * y := by
  have h1 : (u + 1) * 4294967296 ≤ y * 4294967296 := Nat.mul_le_mul_right _ hu
  have h2 : 4294967296 * y ≤ q * y := Nat.mul_le_mul_right _ hq
  omega

/-- Where the rest has outgrown a word the digit is right. -/
theorem digit_rest {u d y1 y0 q r : Nat} (hr : r + q * y1 = u) (hr2 : 4294967296 ≤ r) (hq : q ≤ 4294967296) (hy0 : y0 < 4294967296) : q * (y1 * 4294967296 + y0) ≤ u * 4294967296 + d := by
  rw [← digit_test hr]
  have h1 : q * y0 ≤ 4294967296 * y0 := Nat.mul_le_mul_right _ hq
  omega

theorem digit_done {N y q : Nat} (h1 : q * y ≤ N) (h2 : N < (q + 1) * y) : q = N / y :=
  (Nat.div_eq_of_lt_le h1 h2).symm

theorem two_digits' (W u d1 d0 y : Nat) (hy : 0 < y) : ((u * W + d1) / y * W + ((u * W + d1) % y * W + d0) / y = (u * (W * W) + (d1 * W + d0)) / y) ∧
    ((u * W + d1) % y * W + d0) % y = (u * (W * W) + (d1 * W + d0)) % y := by
  have e : u * (W * W) + (d1 * W + d0) = ((u * W + d1) % y * W + d0) + y * ((u * W + d1) / y * W) := by
    have h := Nat.div_add_mod (u * W + d1) y
    have h2 : (u * W + d1) * W = (u * W + d1) % y * W + y * ((u * W + d1) / y * W) := by
      conv => lhs; rw [← h]
      rw [Nat.add_mul, Nat.mul_assoc, Nat.add_comm]
    rw [Nat.add_mul, Nat.mul_assoc] at h2
    omega
  rw [e, Nat.add_mul_div_left _ _ hy, Nat.add_mul_mod_self_left]
  exact ⟨by omega, rfl⟩

/-- Two digits make the quotient. -/
theorem two_digits {u d1 d0 y : Nat} (hy : 0 < y) : ((u * 4294967296 + d1) / y * 4294967296 + ((u * 4294967296 + d1) % y * 4294967296 + d0) / y = (u * 18446744073709551616 + (d1 * 4294967296 + d0)) / y) ∧
    ((u * 4294967296 + d1) % y * 4294967296 + d0) % y = (u * 18446744073709551616 + (d1 * 4294967296 + d0)) % y := two_digits' 4294967296 u d1 d0 y hy

/-- The high word, moved up. -/
theorem shift_high {hi lo y s : Nat} (hs : s ≤ 64) (hlo : lo < 18446744073709551616) (hy : y * 2 ^ s < 18446744073709551616) (hh : hi < y) :
    hi * 2 ^ s % 18446744073709551616 = hi * 2 ^ s ∧ lo / 2 ^ (64 - s) < 2 ^ s ∧ hi * 2 ^ s + lo / 2 ^ (64 - s) < y * 2 ^ s ∧
      (hi * 2 ^ s + lo / 2 ^ (64 - s)) * 18446744073709551616 + lo * 2 ^ s % 18446744073709551616 = (hi * 18446744073709551616 + lo) * 2 ^ s := by
  have hp : 2 ^ s * 2 ^ (64 - s) = 18446744073709551616 := by rw [← Nat.pow_add]; rw [show s + (64 - s) = 64 by omega]
  have h1 : (hi + 1) * 2 ^ s ≤ y * 2 ^ s := Nat.mul_le_mul_right _ hh
  rw [Nat.add_mul, Nat.one_mul] at h1
  have h2 : lo / 2 ^ (64 - s) < 2 ^ s := by
    rw [Nat.div_lt_iff_lt_mul (Nat.two_pow_pos _), hp]; exact hlo
  have h3 : lo * 2 ^ s % 18446744073709551616 = lo % 2 ^ (64 - s) * 2 ^ s := by
    rw [← hp, Nat.mul_comm (2 ^ s) (2 ^ (64 - s)), Nat.mul_mod_mul_right]
  have h4 := Nat.div_add_mod lo (2 ^ (64 - s))
  have h5 : lo * 2 ^ s = lo / 2 ^ (64 - s) * 18446744073709551616 + lo % 2 ^ (64 - s) * 2 ^ s := by
    conv => lhs; rw [← h4]
    rw [Nat.add_mul, ← hp, Nat.mul_assoc, Nat.mul_comm (2 ^ (64 - s)), Nat.mul_assoc]
  refine ⟨Nat.mod_eq_of_lt (by omega), h2, by omega, ?_⟩
  rw [h3, Nat.add_mul, Nat.add_mul, h5, Nat.mul_right_comm]
  omega

end Go.SX
