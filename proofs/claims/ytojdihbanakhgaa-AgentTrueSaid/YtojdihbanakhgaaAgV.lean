/- The division of a number of two words: what bits.Div64 and bits.Rem64 reckon. -/
import Derived.Test.YtojdihbanakhgaaAgA
import Derived.Test.YtojdihbanakhgaaPlainA
namespace Go.SX
open Go.Proofs.Try Go.Proofs

theorem norm_shift {y : Nat} (h0 : 0 < y) (h1 : y < 18446744073709551616) : ∃ s, 64 - bitLen y = s ∧ s < 64 ∧ 9223372036854775808 ≤ y * 2 ^ s ∧ y * 2 ^ s < 18446744073709551616 := by
  obtain ⟨hb, hc⟩ := bitLen_spec y
  have hc := hc (by omega)
  have hl : bitLen y ≤ 64 := by
    unfold bitLen
    split
    · omega
    · have := (Nat.log2_lt (show y ≠ 0 by omega)).2 (show y < 2 ^ 64 from h1)
      omega
  have hp : 1 ≤ bitLen y := by unfold bitLen; split <;> omega
  generalize bitLen y = k at *
  refine ⟨64 - k, rfl, by omega, ?_, ?_⟩
  · have e : 2 ^ (k - 1) * 2 ^ (64 - k) = 9223372036854775808 := by rw [← Nat.pow_add, show k - 1 + (64 - k) = 63 by omega]
    have := Nat.mul_le_mul_right (2 ^ (64 - k)) hc
    omega
  · have e : 2 ^ k * 2 ^ (64 - k) = 18446744073709551616 := by rw [← Nat.pow_add, show k + (64 - k) = 64 by omega]
    have := Nat.mul_lt_mul_of_pos_right hb (Nat.two_pow_pos (64 - k))
    omega

set_option maxHeartbeats 2000000 in
set_option maxRecDepth 100000 in
theorem div64_spec (hi lo y : Nat) (h0 : 0 < y) (hh : hi < y) (hy : y < 18446744073709551616) (hlo : lo < 18446744073709551616) (M : Mem) :
    Pure1 111 #[.int .u64 hi, .int .u64 lo, .int .u64 y] M (.tuple #[.int .u64 (((hi * 18446744073709551616 + lo) / y : Nat) : Int), .int .u64 (((hi * 18446744073709551616 + lo) % y : Nat) : Int)]) := by
  obtain ⟨s, hs, hs64, hY1, hY2⟩ := norm_shift h0 hy
  obtain ⟨g1, g2, g3, g4⟩ := shift_high (lo := lo) (show s ≤ 64 by omega) hlo hY2 hh
  have eor : hi * 2 ^ s ||| lo / 2 ^ (64 - s) = hi * 2 ^ s + lo / 2 ^ (64 - s) := by
    rw [Nat.mul_comm, ← Nat.two_pow_add_eq_or_of_lt g2]
  refine ok111.pure 200 [.sym .u64 fun _ => (hi : Int), .sym .u64 fun _ => (lo : Int), .sym .u64 fun _ => (y : Int)] rfl (by kernel_rfl) fun c K hK => ?_
  conv => cbv
  refine ⟨fun h => ?_, fun h => ?_⟩
  · replace h := of_decide_eq_true h
    simp only [nc] at h
    omega
  refine ⟨fun h => ?_, fun h => ?_⟩
  · replace h := of_decide_eq_true h
    simp only [nc] at h
    omega
  clear h
  refine ⟨fun h => ?_, fun h => ?_⟩
  · replace h := of_decide_eq_true h
    simp only [nc] at h
    have : hi = 0 := by omega
    subst this
    refine .quoN lo y rfl rfl h0 hlo ?_
    conv => cbv
    refine .remN lo y rfl rfl h0 ?_
    conv => cbv
    refine hK.pure rfl (Mem.le_refl _) ?_
    simp [AV.val, AV.den, AV.denL]
  clear h
  refine CallS.pure (lz64_spec y hy M) rfl (.sym .i64 fun _ => ((s : Nat) : Int)) rfl (congrArg (fun n : Nat => Value.int .i64 (n : Int)) hs.symm) ?_
  conv => cbv
  refine .u64 (s : Int) rfl (by omega) (by omega) ?_
  conv => cbv
  generalize hYe : y * 2 ^ s = Y at *
  refine .shlN y s Y rfl rfl (Nat.le_of_lt hs64) (by rw [hYe, Nat.mod_eq_of_lt hY2]) ?_
  conv => cbv
  refine .shrN Y 32 (Y / 4294967296) rfl rfl (by decide) rfl ?_
  conv => cbv
  refine .low32 Y rfl rfl hY2 ?_
  conv => cbv
  refine .shlN hi s (hi * 2 ^ s) rfl rfl (by omega) g1.symm ?_
  conv => cbv
  refine .nat (64 - s) (by show (64 : Int) - (s : Int) = _; clear g1 g2 g3 g4 eor; omega) (by omega) ?_
  conv => cbv
  refine .shrN lo (64 - s) (lo / 2 ^ (64 - s)) rfl rfl (by omega) rfl ?_
  conv => cbv
  generalize hu : hi * 2 ^ s + lo / 2 ^ (64 - s) = u at *
  have hu1 : hi * 2 ^ s < 18446744073709551616 := by rw [← g1]; exact Nat.mod_lt _ (by decide)
  have hu2 : lo / 2 ^ (64 - s) < 18446744073709551616 := Nat.lt_of_le_of_lt (Nat.div_le_self _ _) hlo
  refine .orN (hi * 2 ^ s) (lo / 2 ^ (64 - s)) u rfl rfl hu1 hu2 eor.symm ?_
  conv => cbv
  generalize hL : lo * 2 ^ s % 18446744073709551616 = L at *
  have hL2 : L < 18446744073709551616 := by rw [← hL]; exact Nat.mod_lt _ (by decide)
  refine .shlN lo s L rfl rfl (by omega) hL.symm ?_
  conv => cbv
  refine .shrN L 32 (L / 4294967296) rfl rfl (by decide) rfl ?_
  conv => cbv
  refine .low32 L rfl rfl hL2 ?_
  conv => cbv
  generalize hy1 : Y / 4294967296 = y1 at *
  generalize hy0 : Y % 4294967296 = y0 at *
  have eY : Y = y1 * 4294967296 + y0 := by omega
  have hy1p : 2147483648 ≤ y1 := by omega
  have hy0p : y0 < 4294967296 := by omega
  refine .quoN u y1 rfl rfl (by omega) (by omega) ?_
  conv => cbv
  generalize hq : u / y1 = q at *
  have hq1 : q * y1 ≤ u := by rw [← hq]; exact Nat.div_mul_le_self _ _
  refine .nat (q * y1) (by simp) (by omega) ?_
  conv => cbv
  have hr1 : u % y1 = u - q * y1 := by rw [← hq, Nat.mul_comm]; exact Nat.mod_eq_sub_mul_div
  refine .nat (u % y1) (by show (u : Int) - ((q * y1 : Nat) : Int) = _; omega) (by omega) ?_
  conv => cbv
  generalize hd1 : L / 4294967296 = d1 at *
  generalize hd0 : L % 4294967296 = d0 at *
  refine OKS.loopX (fun (p : Nat × Nat) => p.2 + p.1 * y1 = u ∧ p.2 < 4294967296 ∧ u * 4294967296 + d1 < (p.1 + 1) * Y) (fun p => [(15, .sym .u64 fun _ => (p.1 : Int)), (16, .sym .u64 fun _ => (p.2 : Int))]) (fun _ => []) (fun _ => M) (fun p => p.1) (q, u % y1) ?_ ?_
    (fun (k : Nat) => k = (u * 4294967296 + d1) / Y) (fun k => [(15, .sym .u64 fun _ => (k : Int))]) (fun _ => []) (fun _ => M) ?_ ?_
  · refine ⟨?_, ?_, ?_⟩
    · show u % y1 + q * y1 = u
      omega
    · show u % y1 < 4294967296
      have := Nat.mod_lt u (show 0 < y1 by omega)
      omega
    · show u * 4294967296 + d1 < (q + 1) * Y
      rw [← hq, eY]
      exact digit_start (by omega) (by omega)
  · refine ⟨by cbv; simp, by cbv, by cbv, Mem.le_refl _⟩
  · intro k hk
    have hk1 : k * Y ≤ u * 4294967296 + d1 := by rw [hk]; exact Nat.div_mul_le_self _ _
    have hv0 : (u * 4294967296 + d1) % Y = u * 4294967296 + d1 - k * Y := by have := Nat.div_add_mod' (u * 4294967296 + d1) Y; rw [← hk] at this; omega
    have hv1 : (u * 4294967296 + d1) % Y < Y := Nat.mod_lt _ (by omega)
    obtain ⟨t1, t2⟩ := two_digits (u := u) (d1 := d1) (d0 := d0) (y := Y) (by omega)
    rw [← hk] at t1
    obtain ⟨v, hv⟩ : ∃ v, v = (u * 4294967296 + d1) % Y := ⟨_, rfl⟩
    rw [← hv] at hv0 hv1 t1 t2
    have hN : u * 18446744073709551616 + (d1 * 4294967296 + d0) = (hi * 18446744073709551616 + lo) * 2 ^ s := by
      have e : d1 * 4294967296 + d0 = L := by clear hv0 hv1 t1 t2 hk1 hv hk g4 eor; omega
      rw [e]; exact g4
    have hNq : (hi * 18446744073709551616 + lo) / y < 18446744073709551616 := by
      rw [Nat.div_lt_iff_lt_mul h0]
      have := Nat.mul_le_mul_right 18446744073709551616 (show hi + 1 ≤ y from hh)
      omega
    rw [hN, ← hYe, Nat.mul_div_mul_right _ _ (Nat.two_pow_pos s), hYe] at t1
    rw [hN, ← hYe, Nat.mul_mod_mul_right, hYe] at t2
    refine ok111.go 100 (by kernel_rfl) ?_
    conv => cbv
    refine .u64m _ rfl ?_
    conv => cbv
    refine .u64m _ rfl ?_
    conv => cbv
    refine .u64m _ rfl ?_
    conv => cbv
    refine .natm v _ rfl ?_ ?_
    · show ((((u : Int) * 4294967296) % 18446744073709551616 + (d1 : Int)) % 18446744073709551616 - ((k : Int) * (Y : Int)) % 18446744073709551616) % 18446744073709551616 = (v : Int)
      have : ((k * Y : Nat) : Int) = (k : Int) * (Y : Int) := by simp
      rw [← this]
      omega
    conv => cbv
    refine .quoN v y1 rfl rfl (by omega) (by omega) ?_
    conv => cbv
    generalize hq2 : v / y1 = q
    have hq3 : q * y1 ≤ v := by rw [← hq2]; exact Nat.div_mul_le_self _ _
    refine .nat (q * y1) (by simp) (by omega) ?_
    conv => cbv
    have hr2 : v % y1 = v - q * y1 := by rw [← hq2, Nat.mul_comm]; exact Nat.mod_eq_sub_mul_div
    refine .nat (v % y1) (by show (v : Int) - ((q * y1 : Nat) : Int) = _; omega) (by omega) ?_
    conv => cbv
    refine OKS.loopX (fun (p : Nat × Nat) => p.2 + p.1 * y1 = v ∧ p.2 < 4294967296 ∧ v * 4294967296 + d0 < (p.1 + 1) * Y) (fun p => [(18, .sym .u64 fun _ => (p.1 : Int)), (16, .sym .u64 fun _ => (p.2 : Int))]) (fun _ => []) (fun _ => M) (fun p => p.1) (q, v % y1) ?_ ?_
      (fun (k : Nat) => k = (v * 4294967296 + d0) / Y) (fun k => [(18, .sym .u64 fun _ => (k : Int))]) (fun _ => []) (fun _ => M) ?_ ?_
    · refine ⟨?_, ?_, ?_⟩
      · show v % y1 + q * y1 = v
        omega
      · show v % y1 < 4294967296
        have := Nat.mod_lt v (show 0 < y1 by omega)
        omega
      · show v * 4294967296 + d0 < (q + 1) * Y
        rw [← hq2, eY]
        exact digit_start (by omega) (by omega)
    · refine ⟨by cbv; simp, by cbv, by cbv, Mem.le_refl _⟩
    · intro m hm
      rw [← hm] at t1
      have hm1 : m * Y ≤ v * 4294967296 + d0 := by rw [hm]; exact Nat.div_mul_le_self _ _
      have hm0 : (v * 4294967296 + d0) % Y = v * 4294967296 + d0 - m * Y := by have := Nat.div_add_mod' (v * 4294967296 + d0) Y; rw [← hm] at this; omega
      refine ok111.go 100 (by kernel_rfl) ?_
      conv => cbv
      refine .nat (k * 4294967296) (by simp) (by omega) ?_
      conv => cbv
      refine .nat ((hi * 18446744073709551616 + lo) / y) (by show ((k * 4294967296 : Nat) : Int) + (m : Int) = _; omega) (by omega) ?_
      conv => cbv
      refine .u64m _ rfl ?_
      conv => cbv
      refine .u64m _ rfl ?_
      conv => cbv
      refine .u64m _ rfl ?_
      conv => cbv
      refine .natm ((hi * 18446744073709551616 + lo) % y * 2 ^ s) _ rfl ?_ ?_
      · show ((((v : Int) * 4294967296) % 18446744073709551616 + (d0 : Int)) % 18446744073709551616 - ((m : Int) * (Y : Int)) % 18446744073709551616) % 18446744073709551616 = _
        have : ((m * Y : Nat) : Int) = (m : Int) * (Y : Int) := by simp
        rw [← this, ← t2]
        have := Nat.mod_lt (v * 4294967296 + d0) (show 0 < Y by omega)
        omega
      conv => cbv
      refine .shrN _ s ((hi * 18446744073709551616 + lo) % y) rfl rfl (Nat.le_of_lt hs64) (Nat.mul_div_cancel _ (Nat.two_pow_pos s)).symm ?_
      conv => cbv
      refine hK.pure rfl (Mem.le_refl _) ?_
      simp [AV.val, AV.den, AV.denL]
    · intro ⟨q, r⟩ ⟨hi1, hi2, hi3⟩ ih ihx
      dsimp only at hi1 hi2 hi3
      have hq33 : q ≤ 4294967297 := by
        refine Nat.le_of_not_lt fun hc => ?_
        have := Nat.mul_le_mul_right y1 (show 4294967298 ≤ q from hc)
        omega
      refine ok111.go 100 (by kernel_rfl) ?_
      conv => cbv
      refine ⟨fun h => ?_, fun h => ?_⟩
      · replace h := of_decide_eq_true h
        simp only [nc] at h
        have hlt : v * 4294967296 + d0 < q * Y := digit_big hv1 (by omega) (by omega)
        refine .nat (q - 1) (by show (q : Int) - 1 = _; omega) (by omega) ?_
        conv => cbv
        refine .nat (r + y1) (by simp) (by omega) ?_
        conv => cbv
        have hqm : (q - 1) * y1 + y1 = q * y1 := by conv => rhs; rw [show q = q - 1 + 1 by omega, Nat.add_mul, Nat.one_mul]
        refine ⟨fun h' => ?_, fun h' => ?_⟩
        · replace h' := of_decide_eq_true h'
          simp only [nc] at h'
          refine ihx (q - 1) ?_ _ ?_
          · refine digit_done ?_ (by rw [show q - 1 + 1 = q by omega]; exact hlt)
            rw [eY]
            exact digit_rest (r := r + y1) (by omega) (by omega) (by omega) hy0p
          · refine ⟨by cbv; simp, by cbv, by cbv, Mem.le_refl _⟩
        · replace h' := of_decide_eq_false h'
          simp only [nc] at h'
          refine ih (q - 1, r + y1) ⟨?_, ?_, ?_⟩ ?_ _ ?_
          · show r + y1 + (q - 1) * y1 = v
            omega
          · show r + y1 < 4294967296
            omega
          · show v * 4294967296 + d0 < (q - 1 + 1) * Y
            rw [show q - 1 + 1 = q by omega]; exact hlt
          · show q - 1 < q
            omega
          · refine ⟨by cbv; simp, by cbv, by cbv, Mem.le_refl _⟩
      · replace h := of_decide_eq_false h
        simp only [nc] at h
        have e1 : q * y0 < 18446744073709551616 := by
          have := Nat.mul_lt_mul'' (show q < 4294967296 by omega) hy0p
          omega
        refine .nat (q * y0) (by simp) e1 ?_
        conv => cbv
        refine .nat (4294967296 * r) (by simp) (by omega) ?_
        conv => cbv
        refine .nat (4294967296 * r + d0) (by simp) (by omega) ?_
        conv => cbv
        refine ⟨fun h => ?_, fun h => ?_⟩
        · replace h := of_decide_eq_true h
          simp only [nc] at h
          have hlt : v * 4294967296 + d0 < q * Y := by
            rw [eY]
            have := digit_test (d := d0) (y0 := y0) hi1; omega
          have hq0 : 0 < q := by
            rcases Nat.eq_zero_or_pos q with e | e
            · subst e; omega
            · exact e
          refine .nat (q - 1) (by show (q : Int) - 1 = _; omega) (by omega) ?_
          conv => cbv
          refine .nat (r + y1) (by simp) (by omega) ?_
          conv => cbv
          have hqm : (q - 1) * y1 + y1 = q * y1 := by conv => rhs; rw [show q = q - 1 + 1 by omega, Nat.add_mul, Nat.one_mul]
          refine ⟨fun h' => ?_, fun h' => ?_⟩
          · replace h' := of_decide_eq_true h'
            simp only [nc] at h'
            refine ihx (q - 1) ?_ _ ?_
            · refine digit_done ?_ (by rw [show q - 1 + 1 = q by omega]; exact hlt)
              rw [eY]
              exact digit_rest (r := r + y1) (by omega) (by omega) (by omega) hy0p
            · refine ⟨by cbv; simp, by cbv, by cbv, Mem.le_refl _⟩
          · replace h' := of_decide_eq_false h'
            simp only [nc] at h'
            refine ih (q - 1, r + y1) ⟨?_, ?_, ?_⟩ ?_ _ ?_
            · show r + y1 + (q - 1) * y1 = v
              omega
            · show r + y1 < 4294967296
              omega
            · show v * 4294967296 + d0 < (q - 1 + 1) * Y
              rw [show q - 1 + 1 = q by omega]; exact hlt
            · show q - 1 < q
              omega
            · refine ⟨by cbv; simp, by cbv, by cbv, Mem.le_refl _⟩
        · replace h := of_decide_eq_false h
          simp only [nc] at h
          refine ihx q ?_ _ ?_
          · refine digit_done ?_ hi3
            rw [eY]
            exact (digit_test hi1).1 (by omega)
          · refine ⟨by cbv; simp, by cbv, by cbv, Mem.le_refl _⟩
  · intro ⟨q, r⟩ ⟨hi1, hi2, hi3⟩ ih ihx
    dsimp only at hi1 hi2 hi3
    have hq33 : q ≤ 4294967297 := by
      refine Nat.le_of_not_lt fun hc => ?_
      have := Nat.mul_le_mul_right y1 (show 4294967298 ≤ q from hc)
      omega
    refine ok111.go 100 (by kernel_rfl) ?_
    conv => cbv
    refine ⟨fun h => ?_, fun h => ?_⟩
    · replace h := of_decide_eq_true h
      simp only [nc] at h
      have hlt : u * 4294967296 + d1 < q * Y := digit_big g3 (by omega) (by omega)
      refine .nat (q - 1) (by show (q : Int) - 1 = _; omega) (by omega) ?_
      conv => cbv
      refine .nat (r + y1) (by simp) (by omega) ?_
      conv => cbv
      have hqm : (q - 1) * y1 + y1 = q * y1 := by conv => rhs; rw [show q = q - 1 + 1 by omega, Nat.add_mul, Nat.one_mul]
      refine ⟨fun h' => ?_, fun h' => ?_⟩
      · replace h' := of_decide_eq_true h'
        simp only [nc] at h'
        refine ihx (q - 1) ?_ _ ?_
        · refine digit_done ?_ (by rw [show q - 1 + 1 = q by omega]; exact hlt)
          rw [eY]
          exact digit_rest (r := r + y1) (by omega) (by omega) (by omega) hy0p
        · refine ⟨by cbv; simp, by cbv, by cbv, Mem.le_refl _⟩
      · replace h' := of_decide_eq_false h'
        simp only [nc] at h'
        refine ih (q - 1, r + y1) ⟨?_, ?_, ?_⟩ ?_ _ ?_
        · show r + y1 + (q - 1) * y1 = u
          omega
        · show r + y1 < 4294967296
          omega
        · show u * 4294967296 + d1 < (q - 1 + 1) * Y
          rw [show q - 1 + 1 = q by omega]; exact hlt
        · show q - 1 < q
          omega
        · refine ⟨by cbv; simp, by cbv, by cbv, Mem.le_refl _⟩
    · replace h := of_decide_eq_false h
      simp only [nc] at h
      have e1 : q * y0 < 18446744073709551616 := by
        have := Nat.mul_lt_mul'' (show q < 4294967296 by omega) hy0p
        omega
      refine .nat (q * y0) (by simp) e1 ?_
      conv => cbv
      refine .nat (4294967296 * r) (by simp) (by omega) ?_
      conv => cbv
      refine .nat (4294967296 * r + d1) (by simp) (by omega) ?_
      conv => cbv
      refine ⟨fun h => ?_, fun h => ?_⟩
      · replace h := of_decide_eq_true h
        simp only [nc] at h
        have hlt : u * 4294967296 + d1 < q * Y := by
          rw [eY]
          have := digit_test (d := d1) (y0 := y0) hi1; omega
        have hq0 : 0 < q := by
          rcases Nat.eq_zero_or_pos q with e | e
          · subst e; omega
          · exact e
        refine .nat (q - 1) (by show (q : Int) - 1 = _; omega) (by omega) ?_
        conv => cbv
        refine .nat (r + y1) (by simp) (by omega) ?_
        conv => cbv
        have hqm : (q - 1) * y1 + y1 = q * y1 := by conv => rhs; rw [show q = q - 1 + 1 by omega, Nat.add_mul, Nat.one_mul]
        refine ⟨fun h' => ?_, fun h' => ?_⟩
        · replace h' := of_decide_eq_true h'
          simp only [nc] at h'
          refine ihx (q - 1) ?_ _ ?_
          · refine digit_done ?_ (by rw [show q - 1 + 1 = q by omega]; exact hlt)
            rw [eY]
            exact digit_rest (r := r + y1) (by omega) (by omega) (by omega) hy0p
          · refine ⟨by cbv; simp, by cbv, by cbv, Mem.le_refl _⟩
        · replace h' := of_decide_eq_false h'
          simp only [nc] at h'
          refine ih (q - 1, r + y1) ⟨?_, ?_, ?_⟩ ?_ _ ?_
          · show r + y1 + (q - 1) * y1 = u
            omega
          · show r + y1 < 4294967296
            omega
          · show u * 4294967296 + d1 < (q - 1 + 1) * Y
            rw [show q - 1 + 1 = q by omega]; exact hlt
          · show q - 1 < q
            omega
          · refine ⟨by cbv; simp, by cbv, by cbv, Mem.le_refl _⟩
      · replace h := of_decide_eq_false h
        simp only [nc] at h
        refine ihx q ?_ _ ?_
        · refine digit_done ?_ hi3
          rw [eY]
          exact (digit_test hi1).1 (by omega)
        · refine ⟨by cbv; simp, by cbv, by cbv, Mem.le_refl _⟩

theorem rem64_spec (hi lo y : Nat) (h0 : 0 < y) (hy : y < 18446744073709551616) (_hhi : hi < 18446744073709551616) (hlo : lo < 18446744073709551616) (M : Mem) :
    Pure1 110 #[.int .u64 hi, .int .u64 lo, .int .u64 y] M (.int .u64 (((hi * 18446744073709551616 + lo) % y : Nat) : Int)) := by
  refine ok110.pure 200 [.sym .u64 fun _ => (hi : Int), .sym .u64 fun _ => (lo : Int), .sym .u64 fun _ => (y : Int)] rfl (by kernel_rfl) fun c K hK => ?_
  conv => cbv
  refine .remN hi y rfl rfl h0 ?_
  conv => cbv
  refine CallS.pure (div64_spec (hi % y) lo y h0 (Nat.mod_lt _ h0) hy hlo M) rfl (.tup [.sym .u64 fun _ => (((hi % y * 18446744073709551616 + lo) / y : Nat) : Int), .sym .u64 fun _ => (((hi % y * 18446744073709551616 + lo) % y : Nat) : Int)]) rfl rfl ?_
  conv => cbv
  refine hK.pure rfl (Mem.le_refl _) ?_
  have : (hi % y * 18446744073709551616 + lo) % y = (hi * 18446744073709551616 + lo) % y := by
    rw [Nat.add_mod, Nat.mul_mod, Nat.mod_mod, ← Nat.mul_mod, ← Nat.add_mod]
  exact congrArg (fun n : Nat => Value.int .u64 (n : Int)) this

end Go.SX
