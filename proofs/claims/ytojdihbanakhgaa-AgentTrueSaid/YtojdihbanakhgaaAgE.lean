/- Package ratio: the sum and the difference. -/
import Derived.Test.YtojdihbanakhgaaAgC
namespace Go.SX
open Go.Proofs.Try Go.Proofs

theorem pairV {a b c d : Nat} (h1 : a = c) (h2 : b = d) : (AV.tup [UA a, UA b]).val = .tuple #[UV c, UV d] := by subst h1; subst h2; rfl

theorem add64_specC (x y k : Nat) (hx : x < 18446744073709551616) (hy : y < 18446744073709551616) (hk : k ≤ 1) (M : Mem) : Pure1 108 #[UV x, UV y, UV k] M (.tuple #[UV ((x + y + k) % 18446744073709551616), UV ((x + y + k) / 18446744073709551616)]) := by
  intro w hm
  have h : (callFunc 108 #[UV x, UV y, UV k]).run PR w = .ok (.value (.tuple #[UV ((x + y + k) % 18446744073709551616), UV ((x + y + k) / 18446744073709551616)])) w := by
    rw [PR_eq, run_callFunc_extern func108 (by kernel_rfl) (by kernel_rfl) (by kernel_rfl) (e := add64Entry) (by kernel_rfl), run_add64 x y k (by omega) (by omega) (by omega) (by omega)]
    simp
  rw [h]
  exact ⟨M, hm, ⟨rfl, rfl, rfl, fun _ => rfl, Nat.le_refl _, fun _ _ _ => rfl⟩, Keeps.refl _ _, fun _ hb => .inl hb, rfl, rfl⟩

theorem sub64_specC (x y k : Nat) (_hx : x < 18446744073709551616) (_hy : y < 18446744073709551616) (hk : k ≤ 1) (M : Mem) : Pure1 109 #[UV x, UV y, UV k] M (.tuple #[UV ((x + 18446744073709551616 - y - k) % 18446744073709551616), UV (if x < y + k then 1 else 0)]) := by
  intro w hm
  have h : (callFunc 109 #[UV x, UV y, UV k]).run PR w = .ok (.value (.tuple #[UV ((x + 18446744073709551616 - y - k) % 18446744073709551616), UV (if x < y + k then 1 else 0)])) w := by
    rw [PR_eq, run_callFunc_extern func109 (by kernel_rfl) (by kernel_rfl) (by kernel_rfl) (e := sub64Entry) (by kernel_rfl)]
    have h0 := run_sub64 (P := Go.Proofs.Try.prog) x y k (by omega) w
    have h1 : (sub64Entry #[UV x, UV y, UV k]).run Go.Proofs.Try.prog w = .ok (.tuple #[UV ((x + 18446744073709551616 - y - k) % 18446744073709551616), UV (if x < y + k then 1 else 0)]) w := h0
    rw [h1]
    rfl
  rw [h]
  exact ⟨M, hm, ⟨rfl, rfl, rfl, fun _ => rfl, Nat.le_refl _, fun _ _ _ => rfl⟩, Keeps.refl _ _, fun _ hb => .inl hb, rfl, rfl⟩

set_option maxHeartbeats 4000000 in
set_option maxRecDepth 100000 in
theorem add_spec (a b : R) (ha : a.Wf) (hb : b.Wf) (M : Mem) : Pure1 78 #[RV a, RV b] M (RE (addR a b)) := by
  by_cases hok : (a.ok && b.ok) = true
  · obtain ⟨ha', hb'⟩ := both_ok hok
    obtain ⟨n, B, rfl, b1, b2, b3, b4⟩ := R.nat ha'
    obtain ⟨m, D, rfl, d1, d2, d3, d4⟩ := R.nat hb'
    obtain ⟨g, hg⟩ : ∃ g, g = Nat.gcd B D := ⟨_, rfl⟩
    have hgp : 0 < g := by rw [hg]; exact Nat.gcd_pos_of_pos_right _ d1
    have hgB : g ≤ B := by rw [hg]; exact Nat.gcd_le_left _ b1
    obtain ⟨s, hs⟩ : ∃ s : Int, s = n * ((D / g : Nat) : Int) + m * ((B / g : Nat) : Int) := ⟨_, rfl⟩
    obtain ⟨h, hh⟩ : ∃ h, h = Nat.gcd s.natAbs g := ⟨_, rfl⟩
    have hhp : 0 < h := by rw [hh]; exact Nat.gcd_pos_of_pos_right _ hgp
    have hhg : h ≤ g := by rw [hh]; exact Nat.gcd_le_right _ hgp
    have hadd : addR ⟨n, B⟩ ⟨m, D⟩ = mkR (decide (s < 0)) (s.natAbs / h) (B / g * (D / h)) := addR_eq ha' hb' (g := g) (B' := B / g) (D' := D / g) hg rfl rfl hs hh
    have hnum : n * (D : Int) + m * (B : Int) = (g : Int) * s := by
      have e1 : (D : Int) = (g : Int) * ((D / g : Nat) : Int) := by
        have := Nat.mul_div_cancel' (show g ∣ D by rw [hg]; exact Nat.gcd_dvd_right _ _)
        conv => lhs; rw [← this]
        exact Int.natCast_mul _ _
      have e2 : (B : Int) = (g : Int) * ((B / g : Nat) : Int) := by
        have := Nat.mul_div_cancel' (show g ∣ B by rw [hg]; exact Nat.gcd_dvd_left _ _)
        conv => lhs; rw [← this]
        exact Int.natCast_mul _ _
      rw [hs, Int.mul_add, Int.mul_left_comm (g : Int) n, Int.mul_left_comm (g : Int) m, ← e1, ← e2]
    have q1 : D / g ≤ 1000000000000000000 := Nat.le_trans (Nat.div_le_self _ _) d2
    have q2 : B / g ≤ 1000000000000000000 := Nat.le_trans (Nat.div_le_self _ _) b2
    have x1 := Nat.mul_le_mul b3 q1
    have y1 := Nat.mul_le_mul d3 q2
    have hB' : B / g * (D / h) = B / g * (D / h) := rfl
    refine ok78.pure 200 [.agg [EA n, EA B], .agg [EA m, EA D]] rfl (by kernel_rfl) fun c K hK => ?_
    conv => cbv
    refine CallS.pure (check2_spec _ _ ha hb M) rfl (EA 0) rfl (by rw [if_pos hok]; rfl) ?_
    conv => cbv
    refine ⟨fun h => (by cases h), fun _ => ?_⟩
    refine .u64 (B : Int) rfl (by omega) (by omega) ?_
    conv => cbv
    refine .u64 (D : Int) rfl (by omega) (by omega) ?_
    conv => cbv
    refine CallS.pure (gcd_spec B D M) rfl (UA g) rfl (by rw [hg]; rfl) ?_
    conv => cbv
    refine .u64 (D : Int) rfl (by omega) (by omega) ?_
    conv => cbv
    refine .quoN D g rfl rfl hgp (by omega) ?_
    conv => cbv
    refine CallS.pure (size_spec n ha.n M) rfl (UA n.natAbs) rfl rfl ?_
    conv => cbv
    refine CallS.pure (mul64_spec n.natAbs (D / g) (by omega) (by omega) M) rfl (.tup [UA _, UA _]) rfl rfl ?_
    conv => cbv
    refine .u64 (B : Int) rfl (by omega) (by omega) ?_
    conv => cbv
    refine .quoN B g rfl rfl hgp (by omega) ?_
    conv => cbv
    refine CallS.pure (size_spec m hb.n M) rfl (UA m.natAbs) rfl rfl ?_
    conv => cbv
    refine CallS.pure (mul64_spec m.natAbs (B / g) (by omega) (by omega) M) rfl (.tup [UA _, UA _]) rfl rfl ?_
    conv => cbv
    obtain ⟨X, hX⟩ : ∃ X, n.natAbs * (D / g) = X := ⟨_, rfl⟩
    obtain ⟨Y, hY⟩ : ∃ Y, m.natAbs * (B / g) = Y := ⟨_, rfl⟩
    rw [hX] at x1
    rw [hY] at y1
    have iX : (n * ((D / g : Nat) : Int)).natAbs = X := by rw [Int.natAbs_mul, Int.natAbs_natCast, hX]
    have iY : (m * ((B / g : Nat) : Int)).natAbs = Y := by rw [Int.natAbs_mul, Int.natAbs_natCast, hY]
    rw [hX, hY]
    obtain ⟨P, hP⟩ : ∃ P : Int, n * ((D / g : Nat) : Int) = P := ⟨_, rfl⟩
    obtain ⟨Q, hQ⟩ : ∃ Q : Int, m * ((B / g : Nat) : Int) = Q := ⟨_, rfl⟩
    have sP1 : n < 0 → P ≤ 0 := fun h => by
      have := Int.mul_le_mul_of_nonneg_right (show n ≤ 0 by omega) (Int.natCast_nonneg (D / g))
      rw [hP] at this; omega
    have sP2 : ¬ n < 0 → 0 ≤ P := fun h => by
      have := Int.mul_nonneg (show 0 ≤ n by omega) (Int.natCast_nonneg (D / g))
      rw [hP] at this; omega
    have sQ1 : m < 0 → Q ≤ 0 := fun h => by
      have := Int.mul_le_mul_of_nonneg_right (show m ≤ 0 by omega) (Int.natCast_nonneg (B / g))
      rw [hQ] at this; omega
    have sQ2 : ¬ m < 0 → 0 ≤ Q := fun h => by
      have := Int.mul_nonneg (show 0 ≤ m by omega) (Int.natCast_nonneg (B / g))
      rw [hQ] at this; omega
    rw [hP] at iX hs
    rw [hQ] at iY hs
    refine ⟨fun k => ?_, fun k => ?_⟩
    · have k : (decide (n < 0) == decide (m < 0)) = true := k
      have kk : n < 0 ↔ m < 0 := by by_cases h1 : n < 0 <;> by_cases h2 : m < 0 <;> simp [h1, h2] at k ⊢
      refine CallS.pure (add64_specC (X % 18446744073709551616) (Y % 18446744073709551616) 0 (by omega) (by omega) (by omega) M) rfl (.tup [UA ((X + Y) % 18446744073709551616), UA ((X % 18446744073709551616 + Y % 18446744073709551616) / 18446744073709551616)]) rfl (pairV (by omega) rfl) ?_
      conv => cbv
      refine CallS.pure (add64_specC (X / 18446744073709551616) (Y / 18446744073709551616) ((X % 18446744073709551616 + Y % 18446744073709551616) / 18446744073709551616) (by omega) (by omega) (by omega) M) rfl (.tup [UA ((X + Y) / 18446744073709551616), UA 0]) rfl (pairV (by omega) (by omega)) ?_
      conv => cbv
      have hS : s.natAbs = (X + Y) := by
        by_cases h1 : n < 0 <;> (have := sP1; have := sP2; have := sQ1; have := sQ2; omega)
      have hmin : (X + Y) ≠ 0 → (decide (n < 0)) = decide (s < 0) := by
        intro h0; by_cases h1 : n < 0 <;> simp only [h1, decide_true, decide_false] <;> symm <;> simp <;> (have := sP1; have := sP2; have := sQ1; have := sQ2; omega)
      refine ⟨fun z => ?_, fun z => ?_⟩
      · replace z := of_decide_eq_true z
        try simp only [nc] at z
        try simp only [minF_t] at z
        try simp only [minF_f] at z
        try dsimp only at z
        refine ⟨fun z2 => ?_, fun z2 => ?_⟩
        · replace z2 := of_decide_eq_true z2
          try simp only [nc] at z2
          try simp only [minF_t] at z2
          try simp only [minF_f] at z2
          try dsimp only at z2
          refine hK.pure rfl (Mem.le_refl _) ?_
          have hs0 : s = 0 := by omega
          have : addR ⟨n, B⟩ ⟨m, D⟩ = (⟨0, 1⟩, 0) := by
            simp only [addR, hok, if_true, norm, hnum, hs0]
            simp [mkR, lim, b1, d1]
          rw [this]
          rfl
        · replace z2 := of_decide_eq_false z2
          try simp only [nc] at z2
          try simp only [minF_t] at z2
          try simp only [minF_f] at z2
          try dsimp only at z2
          have hmin' := hmin (by omega)
          have eS : (X + Y) / 18446744073709551616 * 18446744073709551616 + (X + Y) % 18446744073709551616 = (X + Y) := Nat.div_add_mod' _ _
          refine CallS.pure (rem64_spec ((X + Y) / 18446744073709551616) ((X + Y) % 18446744073709551616) g hgp (by omega) (by omega) (by omega) M) rfl (UA ((X + Y) % g)) rfl (by rw [eS]; rfl) ?_
          conv => cbv
          refine CallS.pure (gcd_spec ((X + Y) % g) g M) rfl (UA h) rfl (by rw [← Nat.gcd_rec, Nat.gcd_comm, hh, hS]; rfl) ?_
          conv => cbv
          refine ⟨fun r1 => ?_, fun r1 => ?_⟩
          · replace r1 := of_decide_eq_true r1
            try simp only [nc] at r1
            try simp only [minF_t] at r1
            try simp only [minF_f] at r1
            try dsimp only at r1
            refine hK.pure rfl (Mem.le_refl _) ?_
            have hbig : 18446744073709551616 ≤ (X + Y) / h := by
              rw [Nat.le_div_iff_mul_le hhp]
              have := Nat.mul_le_mul_left 18446744073709551616 (show h ≤ (X + Y) / 18446744073709551616 by omega)
              omega
            rw [hadd, hS, mkR, if_neg (by simp only [lim]; omega)]
            rfl
          · replace r1 := of_decide_eq_false r1
            try simp only [nc] at r1
            try simp only [minF_t] at r1
            try simp only [minF_f] at r1
            try dsimp only at r1
            refine CallS.pure (div64_spec ((X + Y) / 18446744073709551616) ((X + Y) % 18446744073709551616) h hhp (by omega) (by omega) (by omega) M) rfl (.tup [UA ((X + Y) / h), UA ((X + Y) % h)]) rfl (by rw [eS]; rfl) ?_
            conv => cbv
            refine .u64 (B : Int) rfl (by omega) (by omega) ?_
            conv => cbv
            refine .quoN B g rfl rfl hgp (by omega) ?_
            conv => cbv
            refine .u64 (D : Int) rfl (by omega) (by omega) ?_
            conv => cbv
            refine .quoN D h rfl rfl hhp (by omega) ?_
            conv => cbv
            refine CallS.pure (mul64_spec (B / g) (D / h) (by omega) (Nat.lt_of_le_of_lt (Nat.div_le_self _ _) (by omega)) M) rfl (.tup [UA _, UA _]) rfl rfl ?_
            conv => cbv
            have hdn : (X + Y) / h < 18446744073709551616 := by
              rw [Nat.div_lt_iff_lt_mul hhp]
              have := Nat.mul_le_mul_left 18446744073709551616 (show (X + Y) / 18446744073709551616 + 1 ≤ h by omega)
              omega
            have q5 := Nat.mul_le_mul q2 (Nat.le_trans (Nat.div_le_self D h) d2)
            refine ⟨fun r2 => ?_, fun r2 => ?_⟩
            · replace r2 := of_decide_eq_true r2
              try simp only [nc] at r2
              try simp only [minF_t] at r2
              try simp only [minF_f] at r2
              try dsimp only at r2
              refine hK.pure rfl (Mem.le_refl _) ?_
              have hbig : 18446744073709551616 ≤ B / g * (D / h) := by omega
              rw [hadd, hB', mkR, if_neg (by simp only [lim]; omega)]
              rfl
            · replace r2 := of_decide_eq_false r2
              try simp only [nc] at r2
              try simp only [minF_t] at r2
              try simp only [minF_f] at r2
              try dsimp only at r2
              have hsm : B / g * (D / h) % 18446744073709551616 = B / g * (D / h) := by omega
              refine CallS.pure (signed_spec (decide (n < 0)) ((X + Y) / h) (B / g * (D / h)) hdn (by omega) M) (by simp [AV.vals, AV.denL, AV.den, hsm]) (REA _) rfl rfl ?_
              conv => cbv
              refine hK.pure rfl (Mem.le_refl _) ?_
              rw [hadd, hS, ← hmin', hB']
              rfl
      · replace z := of_decide_eq_false z
        try simp only [nc] at z
        try simp only [minF_t] at z
        try simp only [minF_f] at z
        try dsimp only at z
        have hmin' := hmin (by omega)
        have eS : (X + Y) / 18446744073709551616 * 18446744073709551616 + (X + Y) % 18446744073709551616 = (X + Y) := Nat.div_add_mod' _ _
        refine CallS.pure (rem64_spec ((X + Y) / 18446744073709551616) ((X + Y) % 18446744073709551616) g hgp (by omega) (by omega) (by omega) M) rfl (UA ((X + Y) % g)) rfl (by rw [eS]; rfl) ?_
        conv => cbv
        refine CallS.pure (gcd_spec ((X + Y) % g) g M) rfl (UA h) rfl (by rw [← Nat.gcd_rec, Nat.gcd_comm, hh, hS]; rfl) ?_
        conv => cbv
        refine ⟨fun r1 => ?_, fun r1 => ?_⟩
        · replace r1 := of_decide_eq_true r1
          try simp only [nc] at r1
          try simp only [minF_t] at r1
          try simp only [minF_f] at r1
          try dsimp only at r1
          refine hK.pure rfl (Mem.le_refl _) ?_
          have hbig : 18446744073709551616 ≤ (X + Y) / h := by
            rw [Nat.le_div_iff_mul_le hhp]
            have := Nat.mul_le_mul_left 18446744073709551616 (show h ≤ (X + Y) / 18446744073709551616 by omega)
            omega
          rw [hadd, hS, mkR, if_neg (by simp only [lim]; omega)]
          rfl
        · replace r1 := of_decide_eq_false r1
          try simp only [nc] at r1
          try simp only [minF_t] at r1
          try simp only [minF_f] at r1
          try dsimp only at r1
          refine CallS.pure (div64_spec ((X + Y) / 18446744073709551616) ((X + Y) % 18446744073709551616) h hhp (by omega) (by omega) (by omega) M) rfl (.tup [UA ((X + Y) / h), UA ((X + Y) % h)]) rfl (by rw [eS]; rfl) ?_
          conv => cbv
          refine .u64 (B : Int) rfl (by omega) (by omega) ?_
          conv => cbv
          refine .quoN B g rfl rfl hgp (by omega) ?_
          conv => cbv
          refine .u64 (D : Int) rfl (by omega) (by omega) ?_
          conv => cbv
          refine .quoN D h rfl rfl hhp (by omega) ?_
          conv => cbv
          refine CallS.pure (mul64_spec (B / g) (D / h) (by omega) (Nat.lt_of_le_of_lt (Nat.div_le_self _ _) (by omega)) M) rfl (.tup [UA _, UA _]) rfl rfl ?_
          conv => cbv
          have hdn : (X + Y) / h < 18446744073709551616 := by
            rw [Nat.div_lt_iff_lt_mul hhp]
            have := Nat.mul_le_mul_left 18446744073709551616 (show (X + Y) / 18446744073709551616 + 1 ≤ h by omega)
            omega
          have q5 := Nat.mul_le_mul q2 (Nat.le_trans (Nat.div_le_self D h) d2)
          refine ⟨fun r2 => ?_, fun r2 => ?_⟩
          · replace r2 := of_decide_eq_true r2
            try simp only [nc] at r2
            try simp only [minF_t] at r2
            try simp only [minF_f] at r2
            try dsimp only at r2
            refine hK.pure rfl (Mem.le_refl _) ?_
            have hbig : 18446744073709551616 ≤ B / g * (D / h) := by omega
            rw [hadd, hB', mkR, if_neg (by simp only [lim]; omega)]
            rfl
          · replace r2 := of_decide_eq_false r2
            try simp only [nc] at r2
            try simp only [minF_t] at r2
            try simp only [minF_f] at r2
            try dsimp only at r2
            have hsm : B / g * (D / h) % 18446744073709551616 = B / g * (D / h) := by omega
            refine CallS.pure (signed_spec (decide (n < 0)) ((X + Y) / h) (B / g * (D / h)) hdn (by omega) M) (by simp [AV.vals, AV.denL, AV.den, hsm]) (REA _) rfl rfl ?_
            conv => cbv
            refine hK.pure rfl (Mem.le_refl _) ?_
            rw [hadd, hS, ← hmin', hB']
            rfl
    · have k : (decide (n < 0) == decide (m < 0)) = false := k
      have kk : n < 0 ↔ ¬ m < 0 := by by_cases h1 : n < 0 <;> by_cases h2 : m < 0 <;> simp [h1, h2] at k ⊢
      refine ⟨fun c1 => ?_, fun c1 => ?_⟩
      · replace c1 := of_decide_eq_true c1
        try simp only [nc] at c1
        try simp only [minF_t] at c1
        try simp only [minF_f] at c1
        try dsimp only at c1
        have hle : X ≤ Y := by omega
        obtain ⟨cy, hcy⟩ : ∃ cy : Nat, (if Y % 18446744073709551616 < X % 18446744073709551616 + 0 then 1 else 0) = cy := ⟨_, rfl⟩
        have hcy' : cy = 1 ∧ Y % 18446744073709551616 < X % 18446744073709551616 ∨ cy = 0 ∧ X % 18446744073709551616 ≤ Y % 18446744073709551616 := by
          rw [← hcy]; split <;> omega
        refine CallS.pure (sub64_specC (Y % 18446744073709551616) (X % 18446744073709551616) 0 (by omega) (by omega) (by omega) M) rfl (.tup [UA ((Y - X) % 18446744073709551616), UA cy]) rfl (pairV (by clear hs hadd hh; omega) hcy.symm) ?_
        conv => cbv
        refine CallS.pure (sub64_specC (Y / 18446744073709551616) (X / 18446744073709551616) cy (by omega) (by omega) (by omega) M) rfl (.tup [UA ((Y - X) / 18446744073709551616), UA 0]) rfl (pairV (by clear hs hadd hh; omega) (by rw [if_neg (by omega)])) ?_
        conv => cbv
        have hS : s.natAbs = (Y - X) := by
          by_cases h1 : n < 0 <;> (have := sP1; have := sP2; have := sQ1; have := sQ2; omega)
        have hmin : (Y - X) ≠ 0 → (!decide (n < 0)) = decide (s < 0) := by
          intro h0; by_cases h1 : n < 0 <;> simp only [h1, decide_true, decide_false] <;> symm <;> simp <;> (have := sP1; have := sP2; have := sQ1; have := sQ2; omega)
        refine ⟨fun z => ?_, fun z => ?_⟩
        · replace z := of_decide_eq_true z
          try simp only [nc] at z
          try simp only [minF_t] at z
          try simp only [minF_f] at z
          try dsimp only at z
          refine ⟨fun z2 => ?_, fun z2 => ?_⟩
          · replace z2 := of_decide_eq_true z2
            try simp only [nc] at z2
            try simp only [minF_t] at z2
            try simp only [minF_f] at z2
            try dsimp only at z2
            refine hK.pure rfl (Mem.le_refl _) ?_
            have hs0 : s = 0 := by omega
            have : addR ⟨n, B⟩ ⟨m, D⟩ = (⟨0, 1⟩, 0) := by
              simp only [addR, hok, if_true, norm, hnum, hs0]
              simp [mkR, lim, b1, d1]
            rw [this]
            rfl
          · replace z2 := of_decide_eq_false z2
            try simp only [nc] at z2
            try simp only [minF_t] at z2
            try simp only [minF_f] at z2
            try dsimp only at z2
            have hmin' := hmin (by omega)
            have eS : (Y - X) / 18446744073709551616 * 18446744073709551616 + (Y - X) % 18446744073709551616 = (Y - X) := Nat.div_add_mod' _ _
            refine CallS.pure (rem64_spec ((Y - X) / 18446744073709551616) ((Y - X) % 18446744073709551616) g hgp (by omega) (by omega) (by omega) M) rfl (UA ((Y - X) % g)) rfl (by rw [eS]; rfl) ?_
            conv => cbv
            refine CallS.pure (gcd_spec ((Y - X) % g) g M) rfl (UA h) rfl (by rw [← Nat.gcd_rec, Nat.gcd_comm, hh, hS]; rfl) ?_
            conv => cbv
            refine ⟨fun r1 => ?_, fun r1 => ?_⟩
            · replace r1 := of_decide_eq_true r1
              try simp only [nc] at r1
              try simp only [minF_t] at r1
              try simp only [minF_f] at r1
              try dsimp only at r1
              refine hK.pure rfl (Mem.le_refl _) ?_
              have hbig : 18446744073709551616 ≤ (Y - X) / h := by
                rw [Nat.le_div_iff_mul_le hhp]
                have := Nat.mul_le_mul_left 18446744073709551616 (show h ≤ (Y - X) / 18446744073709551616 by omega)
                omega
              rw [hadd, hS, mkR, if_neg (by simp only [lim]; omega)]
              rfl
            · replace r1 := of_decide_eq_false r1
              try simp only [nc] at r1
              try simp only [minF_t] at r1
              try simp only [minF_f] at r1
              try dsimp only at r1
              refine CallS.pure (div64_spec ((Y - X) / 18446744073709551616) ((Y - X) % 18446744073709551616) h hhp (by omega) (by omega) (by omega) M) rfl (.tup [UA ((Y - X) / h), UA ((Y - X) % h)]) rfl (by rw [eS]; rfl) ?_
              conv => cbv
              refine .u64 (B : Int) rfl (by omega) (by omega) ?_
              conv => cbv
              refine .quoN B g rfl rfl hgp (by omega) ?_
              conv => cbv
              refine .u64 (D : Int) rfl (by omega) (by omega) ?_
              conv => cbv
              refine .quoN D h rfl rfl hhp (by omega) ?_
              conv => cbv
              refine CallS.pure (mul64_spec (B / g) (D / h) (by omega) (Nat.lt_of_le_of_lt (Nat.div_le_self _ _) (by omega)) M) rfl (.tup [UA _, UA _]) rfl rfl ?_
              conv => cbv
              have hdn : (Y - X) / h < 18446744073709551616 := by
                rw [Nat.div_lt_iff_lt_mul hhp]
                have := Nat.mul_le_mul_left 18446744073709551616 (show (Y - X) / 18446744073709551616 + 1 ≤ h by omega)
                omega
              have q5 := Nat.mul_le_mul q2 (Nat.le_trans (Nat.div_le_self D h) d2)
              refine ⟨fun r2 => ?_, fun r2 => ?_⟩
              · replace r2 := of_decide_eq_true r2
                try simp only [nc] at r2
                try simp only [minF_t] at r2
                try simp only [minF_f] at r2
                try dsimp only at r2
                refine hK.pure rfl (Mem.le_refl _) ?_
                have hbig : 18446744073709551616 ≤ B / g * (D / h) := by omega
                rw [hadd, hB', mkR, if_neg (by simp only [lim]; omega)]
                rfl
              · replace r2 := of_decide_eq_false r2
                try simp only [nc] at r2
                try simp only [minF_t] at r2
                try simp only [minF_f] at r2
                try dsimp only at r2
                have hsm : B / g * (D / h) % 18446744073709551616 = B / g * (D / h) := by omega
                refine CallS.pure (signed_spec (!decide (n < 0)) ((Y - X) / h) (B / g * (D / h)) hdn (by omega) M) (by simp [AV.vals, AV.denL, AV.den, hsm]) (REA _) rfl rfl ?_
                conv => cbv
                refine hK.pure rfl (Mem.le_refl _) ?_
                rw [hadd, hS, ← hmin', hB']
                rfl
        · replace z := of_decide_eq_false z
          try simp only [nc] at z
          try simp only [minF_t] at z
          try simp only [minF_f] at z
          try dsimp only at z
          have hmin' := hmin (by omega)
          have eS : (Y - X) / 18446744073709551616 * 18446744073709551616 + (Y - X) % 18446744073709551616 = (Y - X) := Nat.div_add_mod' _ _
          refine CallS.pure (rem64_spec ((Y - X) / 18446744073709551616) ((Y - X) % 18446744073709551616) g hgp (by omega) (by omega) (by omega) M) rfl (UA ((Y - X) % g)) rfl (by rw [eS]; rfl) ?_
          conv => cbv
          refine CallS.pure (gcd_spec ((Y - X) % g) g M) rfl (UA h) rfl (by rw [← Nat.gcd_rec, Nat.gcd_comm, hh, hS]; rfl) ?_
          conv => cbv
          refine ⟨fun r1 => ?_, fun r1 => ?_⟩
          · replace r1 := of_decide_eq_true r1
            try simp only [nc] at r1
            try simp only [minF_t] at r1
            try simp only [minF_f] at r1
            try dsimp only at r1
            refine hK.pure rfl (Mem.le_refl _) ?_
            have hbig : 18446744073709551616 ≤ (Y - X) / h := by
              rw [Nat.le_div_iff_mul_le hhp]
              have := Nat.mul_le_mul_left 18446744073709551616 (show h ≤ (Y - X) / 18446744073709551616 by omega)
              omega
            rw [hadd, hS, mkR, if_neg (by simp only [lim]; omega)]
            rfl
          · replace r1 := of_decide_eq_false r1
            try simp only [nc] at r1
            try simp only [minF_t] at r1
            try simp only [minF_f] at r1
            try dsimp only at r1
            refine CallS.pure (div64_spec ((Y - X) / 18446744073709551616) ((Y - X) % 18446744073709551616) h hhp (by omega) (by omega) (by omega) M) rfl (.tup [UA ((Y - X) / h), UA ((Y - X) % h)]) rfl (by rw [eS]; rfl) ?_
            conv => cbv
            refine .u64 (B : Int) rfl (by omega) (by omega) ?_
            conv => cbv
            refine .quoN B g rfl rfl hgp (by omega) ?_
            conv => cbv
            refine .u64 (D : Int) rfl (by omega) (by omega) ?_
            conv => cbv
            refine .quoN D h rfl rfl hhp (by omega) ?_
            conv => cbv
            refine CallS.pure (mul64_spec (B / g) (D / h) (by omega) (Nat.lt_of_le_of_lt (Nat.div_le_self _ _) (by omega)) M) rfl (.tup [UA _, UA _]) rfl rfl ?_
            conv => cbv
            have hdn : (Y - X) / h < 18446744073709551616 := by
              rw [Nat.div_lt_iff_lt_mul hhp]
              have := Nat.mul_le_mul_left 18446744073709551616 (show (Y - X) / 18446744073709551616 + 1 ≤ h by omega)
              omega
            have q5 := Nat.mul_le_mul q2 (Nat.le_trans (Nat.div_le_self D h) d2)
            refine ⟨fun r2 => ?_, fun r2 => ?_⟩
            · replace r2 := of_decide_eq_true r2
              try simp only [nc] at r2
              try simp only [minF_t] at r2
              try simp only [minF_f] at r2
              try dsimp only at r2
              refine hK.pure rfl (Mem.le_refl _) ?_
              have hbig : 18446744073709551616 ≤ B / g * (D / h) := by omega
              rw [hadd, hB', mkR, if_neg (by simp only [lim]; omega)]
              rfl
            · replace r2 := of_decide_eq_false r2
              try simp only [nc] at r2
              try simp only [minF_t] at r2
              try simp only [minF_f] at r2
              try dsimp only at r2
              have hsm : B / g * (D / h) % 18446744073709551616 = B / g * (D / h) := by omega
              refine CallS.pure (signed_spec (!decide (n < 0)) ((Y - X) / h) (B / g * (D / h)) hdn (by omega) M) (by simp [AV.vals, AV.denL, AV.den, hsm]) (REA _) rfl rfl ?_
              conv => cbv
              refine hK.pure rfl (Mem.le_refl _) ?_
              rw [hadd, hS, ← hmin', hB']
              rfl
      · replace c1 := of_decide_eq_false c1
        try simp only [nc] at c1
        try simp only [minF_t] at c1
        try simp only [minF_f] at c1
        try dsimp only at c1
        refine ⟨fun c2 => ?_, fun c2 => ?_⟩
        · replace c2 := of_decide_eq_true c2
          try simp only [nc] at c2
          try simp only [minF_t] at c2
          try simp only [minF_f] at c2
          try dsimp only at c2
          refine ⟨fun c3 => ?_, fun c3 => ?_⟩
          · replace c3 := of_decide_eq_true c3
            try simp only [nc] at c3
            try simp only [minF_t] at c3
            try simp only [minF_f] at c3
            try dsimp only at c3
            have hle : X ≤ Y := by omega
            obtain ⟨cy, hcy⟩ : ∃ cy : Nat, (if Y % 18446744073709551616 < X % 18446744073709551616 + 0 then 1 else 0) = cy := ⟨_, rfl⟩
            have hcy' : cy = 1 ∧ Y % 18446744073709551616 < X % 18446744073709551616 ∨ cy = 0 ∧ X % 18446744073709551616 ≤ Y % 18446744073709551616 := by
              rw [← hcy]; split <;> omega
            refine CallS.pure (sub64_specC (Y % 18446744073709551616) (X % 18446744073709551616) 0 (by omega) (by omega) (by omega) M) rfl (.tup [UA ((Y - X) % 18446744073709551616), UA cy]) rfl (pairV (by clear hs hadd hh; omega) hcy.symm) ?_
            conv => cbv
            refine CallS.pure (sub64_specC (Y / 18446744073709551616) (X / 18446744073709551616) cy (by omega) (by omega) (by omega) M) rfl (.tup [UA ((Y - X) / 18446744073709551616), UA 0]) rfl (pairV (by clear hs hadd hh; omega) (by rw [if_neg (by omega)])) ?_
            conv => cbv
            have hS : s.natAbs = (Y - X) := by
              by_cases h1 : n < 0 <;> (have := sP1; have := sP2; have := sQ1; have := sQ2; omega)
            have hmin : (Y - X) ≠ 0 → (!decide (n < 0)) = decide (s < 0) := by
              intro h0; by_cases h1 : n < 0 <;> simp only [h1, decide_true, decide_false] <;> symm <;> simp <;> (have := sP1; have := sP2; have := sQ1; have := sQ2; omega)
            refine ⟨fun z => ?_, fun z => ?_⟩
            · replace z := of_decide_eq_true z
              try simp only [nc] at z
              try simp only [minF_t] at z
              try simp only [minF_f] at z
              try dsimp only at z
              refine ⟨fun z2 => ?_, fun z2 => ?_⟩
              · replace z2 := of_decide_eq_true z2
                try simp only [nc] at z2
                try simp only [minF_t] at z2
                try simp only [minF_f] at z2
                try dsimp only at z2
                refine hK.pure rfl (Mem.le_refl _) ?_
                have hs0 : s = 0 := by omega
                have : addR ⟨n, B⟩ ⟨m, D⟩ = (⟨0, 1⟩, 0) := by
                  simp only [addR, hok, if_true, norm, hnum, hs0]
                  simp [mkR, lim, b1, d1]
                rw [this]
                rfl
              · replace z2 := of_decide_eq_false z2
                try simp only [nc] at z2
                try simp only [minF_t] at z2
                try simp only [minF_f] at z2
                try dsimp only at z2
                have hmin' := hmin (by omega)
                have eS : (Y - X) / 18446744073709551616 * 18446744073709551616 + (Y - X) % 18446744073709551616 = (Y - X) := Nat.div_add_mod' _ _
                refine CallS.pure (rem64_spec ((Y - X) / 18446744073709551616) ((Y - X) % 18446744073709551616) g hgp (by omega) (by omega) (by omega) M) rfl (UA ((Y - X) % g)) rfl (by rw [eS]; rfl) ?_
                conv => cbv
                refine CallS.pure (gcd_spec ((Y - X) % g) g M) rfl (UA h) rfl (by rw [← Nat.gcd_rec, Nat.gcd_comm, hh, hS]; rfl) ?_
                conv => cbv
                refine ⟨fun r1 => ?_, fun r1 => ?_⟩
                · replace r1 := of_decide_eq_true r1
                  try simp only [nc] at r1
                  try simp only [minF_t] at r1
                  try simp only [minF_f] at r1
                  try dsimp only at r1
                  refine hK.pure rfl (Mem.le_refl _) ?_
                  have hbig : 18446744073709551616 ≤ (Y - X) / h := by
                    rw [Nat.le_div_iff_mul_le hhp]
                    have := Nat.mul_le_mul_left 18446744073709551616 (show h ≤ (Y - X) / 18446744073709551616 by omega)
                    omega
                  rw [hadd, hS, mkR, if_neg (by simp only [lim]; omega)]
                  rfl
                · replace r1 := of_decide_eq_false r1
                  try simp only [nc] at r1
                  try simp only [minF_t] at r1
                  try simp only [minF_f] at r1
                  try dsimp only at r1
                  refine CallS.pure (div64_spec ((Y - X) / 18446744073709551616) ((Y - X) % 18446744073709551616) h hhp (by omega) (by omega) (by omega) M) rfl (.tup [UA ((Y - X) / h), UA ((Y - X) % h)]) rfl (by rw [eS]; rfl) ?_
                  conv => cbv
                  refine .u64 (B : Int) rfl (by omega) (by omega) ?_
                  conv => cbv
                  refine .quoN B g rfl rfl hgp (by omega) ?_
                  conv => cbv
                  refine .u64 (D : Int) rfl (by omega) (by omega) ?_
                  conv => cbv
                  refine .quoN D h rfl rfl hhp (by omega) ?_
                  conv => cbv
                  refine CallS.pure (mul64_spec (B / g) (D / h) (by omega) (Nat.lt_of_le_of_lt (Nat.div_le_self _ _) (by omega)) M) rfl (.tup [UA _, UA _]) rfl rfl ?_
                  conv => cbv
                  have hdn : (Y - X) / h < 18446744073709551616 := by
                    rw [Nat.div_lt_iff_lt_mul hhp]
                    have := Nat.mul_le_mul_left 18446744073709551616 (show (Y - X) / 18446744073709551616 + 1 ≤ h by omega)
                    omega
                  have q5 := Nat.mul_le_mul q2 (Nat.le_trans (Nat.div_le_self D h) d2)
                  refine ⟨fun r2 => ?_, fun r2 => ?_⟩
                  · replace r2 := of_decide_eq_true r2
                    try simp only [nc] at r2
                    try simp only [minF_t] at r2
                    try simp only [minF_f] at r2
                    try dsimp only at r2
                    refine hK.pure rfl (Mem.le_refl _) ?_
                    have hbig : 18446744073709551616 ≤ B / g * (D / h) := by omega
                    rw [hadd, hB', mkR, if_neg (by simp only [lim]; omega)]
                    rfl
                  · replace r2 := of_decide_eq_false r2
                    try simp only [nc] at r2
                    try simp only [minF_t] at r2
                    try simp only [minF_f] at r2
                    try dsimp only at r2
                    have hsm : B / g * (D / h) % 18446744073709551616 = B / g * (D / h) := by omega
                    refine CallS.pure (signed_spec (!decide (n < 0)) ((Y - X) / h) (B / g * (D / h)) hdn (by omega) M) (by simp [AV.vals, AV.denL, AV.den, hsm]) (REA _) rfl rfl ?_
                    conv => cbv
                    refine hK.pure rfl (Mem.le_refl _) ?_
                    rw [hadd, hS, ← hmin', hB']
                    rfl
            · replace z := of_decide_eq_false z
              try simp only [nc] at z
              try simp only [minF_t] at z
              try simp only [minF_f] at z
              try dsimp only at z
              have hmin' := hmin (by omega)
              have eS : (Y - X) / 18446744073709551616 * 18446744073709551616 + (Y - X) % 18446744073709551616 = (Y - X) := Nat.div_add_mod' _ _
              refine CallS.pure (rem64_spec ((Y - X) / 18446744073709551616) ((Y - X) % 18446744073709551616) g hgp (by omega) (by omega) (by omega) M) rfl (UA ((Y - X) % g)) rfl (by rw [eS]; rfl) ?_
              conv => cbv
              refine CallS.pure (gcd_spec ((Y - X) % g) g M) rfl (UA h) rfl (by rw [← Nat.gcd_rec, Nat.gcd_comm, hh, hS]; rfl) ?_
              conv => cbv
              refine ⟨fun r1 => ?_, fun r1 => ?_⟩
              · replace r1 := of_decide_eq_true r1
                try simp only [nc] at r1
                try simp only [minF_t] at r1
                try simp only [minF_f] at r1
                try dsimp only at r1
                refine hK.pure rfl (Mem.le_refl _) ?_
                have hbig : 18446744073709551616 ≤ (Y - X) / h := by
                  rw [Nat.le_div_iff_mul_le hhp]
                  have := Nat.mul_le_mul_left 18446744073709551616 (show h ≤ (Y - X) / 18446744073709551616 by omega)
                  omega
                rw [hadd, hS, mkR, if_neg (by simp only [lim]; omega)]
                rfl
              · replace r1 := of_decide_eq_false r1
                try simp only [nc] at r1
                try simp only [minF_t] at r1
                try simp only [minF_f] at r1
                try dsimp only at r1
                refine CallS.pure (div64_spec ((Y - X) / 18446744073709551616) ((Y - X) % 18446744073709551616) h hhp (by omega) (by omega) (by omega) M) rfl (.tup [UA ((Y - X) / h), UA ((Y - X) % h)]) rfl (by rw [eS]; rfl) ?_
                conv => cbv
                refine .u64 (B : Int) rfl (by omega) (by omega) ?_
                conv => cbv
                refine .quoN B g rfl rfl hgp (by omega) ?_
                conv => cbv
                refine .u64 (D : Int) rfl (by omega) (by omega) ?_
                conv => cbv
                refine .quoN D h rfl rfl hhp (by omega) ?_
                conv => cbv
                refine CallS.pure (mul64_spec (B / g) (D / h) (by omega) (Nat.lt_of_le_of_lt (Nat.div_le_self _ _) (by omega)) M) rfl (.tup [UA _, UA _]) rfl rfl ?_
                conv => cbv
                have hdn : (Y - X) / h < 18446744073709551616 := by
                  rw [Nat.div_lt_iff_lt_mul hhp]
                  have := Nat.mul_le_mul_left 18446744073709551616 (show (Y - X) / 18446744073709551616 + 1 ≤ h by omega)
                  omega
                have q5 := Nat.mul_le_mul q2 (Nat.le_trans (Nat.div_le_self D h) d2)
                refine ⟨fun r2 => ?_, fun r2 => ?_⟩
                · replace r2 := of_decide_eq_true r2
                  try simp only [nc] at r2
                  try simp only [minF_t] at r2
                  try simp only [minF_f] at r2
                  try dsimp only at r2
                  refine hK.pure rfl (Mem.le_refl _) ?_
                  have hbig : 18446744073709551616 ≤ B / g * (D / h) := by omega
                  rw [hadd, hB', mkR, if_neg (by simp only [lim]; omega)]
                  rfl
                · replace r2 := of_decide_eq_false r2
                  try simp only [nc] at r2
                  try simp only [minF_t] at r2
                  try simp only [minF_f] at r2
                  try dsimp only at r2
                  have hsm : B / g * (D / h) % 18446744073709551616 = B / g * (D / h) := by omega
                  refine CallS.pure (signed_spec (!decide (n < 0)) ((Y - X) / h) (B / g * (D / h)) hdn (by omega) M) (by simp [AV.vals, AV.denL, AV.den, hsm]) (REA _) rfl rfl ?_
                  conv => cbv
                  refine hK.pure rfl (Mem.le_refl _) ?_
                  rw [hadd, hS, ← hmin', hB']
                  rfl
          · replace c3 := of_decide_eq_false c3
            try simp only [nc] at c3
            try simp only [minF_t] at c3
            try simp only [minF_f] at c3
            try dsimp only at c3
            have hle : Y ≤ X := by omega
            obtain ⟨cy, hcy⟩ : ∃ cy : Nat, (if X % 18446744073709551616 < Y % 18446744073709551616 + 0 then 1 else 0) = cy := ⟨_, rfl⟩
            have hcy' : cy = 1 ∧ X % 18446744073709551616 < Y % 18446744073709551616 ∨ cy = 0 ∧ Y % 18446744073709551616 ≤ X % 18446744073709551616 := by
              rw [← hcy]; split <;> omega
            refine CallS.pure (sub64_specC (X % 18446744073709551616) (Y % 18446744073709551616) 0 (by omega) (by omega) (by omega) M) rfl (.tup [UA ((X - Y) % 18446744073709551616), UA cy]) rfl (pairV (by clear hs hadd hh; omega) hcy.symm) ?_
            conv => cbv
            refine CallS.pure (sub64_specC (X / 18446744073709551616) (Y / 18446744073709551616) cy (by omega) (by omega) (by omega) M) rfl (.tup [UA ((X - Y) / 18446744073709551616), UA 0]) rfl (pairV (by clear hs hadd hh; omega) (by rw [if_neg (by omega)])) ?_
            conv => cbv
            have hS : s.natAbs = (X - Y) := by
              by_cases h1 : n < 0 <;> (have := sP1; have := sP2; have := sQ1; have := sQ2; omega)
            have hmin : (X - Y) ≠ 0 → (decide (n < 0)) = decide (s < 0) := by
              intro h0; by_cases h1 : n < 0 <;> simp only [h1, decide_true, decide_false] <;> symm <;> simp <;> (have := sP1; have := sP2; have := sQ1; have := sQ2; omega)
            refine ⟨fun z => ?_, fun z => ?_⟩
            · replace z := of_decide_eq_true z
              try simp only [nc] at z
              try simp only [minF_t] at z
              try simp only [minF_f] at z
              try dsimp only at z
              refine ⟨fun z2 => ?_, fun z2 => ?_⟩
              · replace z2 := of_decide_eq_true z2
                try simp only [nc] at z2
                try simp only [minF_t] at z2
                try simp only [minF_f] at z2
                try dsimp only at z2
                refine hK.pure rfl (Mem.le_refl _) ?_
                have hs0 : s = 0 := by omega
                have : addR ⟨n, B⟩ ⟨m, D⟩ = (⟨0, 1⟩, 0) := by
                  simp only [addR, hok, if_true, norm, hnum, hs0]
                  simp [mkR, lim, b1, d1]
                rw [this]
                rfl
              · replace z2 := of_decide_eq_false z2
                try simp only [nc] at z2
                try simp only [minF_t] at z2
                try simp only [minF_f] at z2
                try dsimp only at z2
                have hmin' := hmin (by omega)
                have eS : (X - Y) / 18446744073709551616 * 18446744073709551616 + (X - Y) % 18446744073709551616 = (X - Y) := Nat.div_add_mod' _ _
                refine CallS.pure (rem64_spec ((X - Y) / 18446744073709551616) ((X - Y) % 18446744073709551616) g hgp (by omega) (by omega) (by omega) M) rfl (UA ((X - Y) % g)) rfl (by rw [eS]; rfl) ?_
                conv => cbv
                refine CallS.pure (gcd_spec ((X - Y) % g) g M) rfl (UA h) rfl (by rw [← Nat.gcd_rec, Nat.gcd_comm, hh, hS]; rfl) ?_
                conv => cbv
                refine ⟨fun r1 => ?_, fun r1 => ?_⟩
                · replace r1 := of_decide_eq_true r1
                  try simp only [nc] at r1
                  try simp only [minF_t] at r1
                  try simp only [minF_f] at r1
                  try dsimp only at r1
                  refine hK.pure rfl (Mem.le_refl _) ?_
                  have hbig : 18446744073709551616 ≤ (X - Y) / h := by
                    rw [Nat.le_div_iff_mul_le hhp]
                    have := Nat.mul_le_mul_left 18446744073709551616 (show h ≤ (X - Y) / 18446744073709551616 by omega)
                    omega
                  rw [hadd, hS, mkR, if_neg (by simp only [lim]; omega)]
                  rfl
                · replace r1 := of_decide_eq_false r1
                  try simp only [nc] at r1
                  try simp only [minF_t] at r1
                  try simp only [minF_f] at r1
                  try dsimp only at r1
                  refine CallS.pure (div64_spec ((X - Y) / 18446744073709551616) ((X - Y) % 18446744073709551616) h hhp (by omega) (by omega) (by omega) M) rfl (.tup [UA ((X - Y) / h), UA ((X - Y) % h)]) rfl (by rw [eS]; rfl) ?_
                  conv => cbv
                  refine .u64 (B : Int) rfl (by omega) (by omega) ?_
                  conv => cbv
                  refine .quoN B g rfl rfl hgp (by omega) ?_
                  conv => cbv
                  refine .u64 (D : Int) rfl (by omega) (by omega) ?_
                  conv => cbv
                  refine .quoN D h rfl rfl hhp (by omega) ?_
                  conv => cbv
                  refine CallS.pure (mul64_spec (B / g) (D / h) (by omega) (Nat.lt_of_le_of_lt (Nat.div_le_self _ _) (by omega)) M) rfl (.tup [UA _, UA _]) rfl rfl ?_
                  conv => cbv
                  have hdn : (X - Y) / h < 18446744073709551616 := by
                    rw [Nat.div_lt_iff_lt_mul hhp]
                    have := Nat.mul_le_mul_left 18446744073709551616 (show (X - Y) / 18446744073709551616 + 1 ≤ h by omega)
                    omega
                  have q5 := Nat.mul_le_mul q2 (Nat.le_trans (Nat.div_le_self D h) d2)
                  refine ⟨fun r2 => ?_, fun r2 => ?_⟩
                  · replace r2 := of_decide_eq_true r2
                    try simp only [nc] at r2
                    try simp only [minF_t] at r2
                    try simp only [minF_f] at r2
                    try dsimp only at r2
                    refine hK.pure rfl (Mem.le_refl _) ?_
                    have hbig : 18446744073709551616 ≤ B / g * (D / h) := by omega
                    rw [hadd, hB', mkR, if_neg (by simp only [lim]; omega)]
                    rfl
                  · replace r2 := of_decide_eq_false r2
                    try simp only [nc] at r2
                    try simp only [minF_t] at r2
                    try simp only [minF_f] at r2
                    try dsimp only at r2
                    have hsm : B / g * (D / h) % 18446744073709551616 = B / g * (D / h) := by omega
                    refine CallS.pure (signed_spec (decide (n < 0)) ((X - Y) / h) (B / g * (D / h)) hdn (by omega) M) (by simp [AV.vals, AV.denL, AV.den, hsm]) (REA _) rfl rfl ?_
                    conv => cbv
                    refine hK.pure rfl (Mem.le_refl _) ?_
                    rw [hadd, hS, ← hmin', hB']
                    rfl
            · replace z := of_decide_eq_false z
              try simp only [nc] at z
              try simp only [minF_t] at z
              try simp only [minF_f] at z
              try dsimp only at z
              have hmin' := hmin (by omega)
              have eS : (X - Y) / 18446744073709551616 * 18446744073709551616 + (X - Y) % 18446744073709551616 = (X - Y) := Nat.div_add_mod' _ _
              refine CallS.pure (rem64_spec ((X - Y) / 18446744073709551616) ((X - Y) % 18446744073709551616) g hgp (by omega) (by omega) (by omega) M) rfl (UA ((X - Y) % g)) rfl (by rw [eS]; rfl) ?_
              conv => cbv
              refine CallS.pure (gcd_spec ((X - Y) % g) g M) rfl (UA h) rfl (by rw [← Nat.gcd_rec, Nat.gcd_comm, hh, hS]; rfl) ?_
              conv => cbv
              refine ⟨fun r1 => ?_, fun r1 => ?_⟩
              · replace r1 := of_decide_eq_true r1
                try simp only [nc] at r1
                try simp only [minF_t] at r1
                try simp only [minF_f] at r1
                try dsimp only at r1
                refine hK.pure rfl (Mem.le_refl _) ?_
                have hbig : 18446744073709551616 ≤ (X - Y) / h := by
                  rw [Nat.le_div_iff_mul_le hhp]
                  have := Nat.mul_le_mul_left 18446744073709551616 (show h ≤ (X - Y) / 18446744073709551616 by omega)
                  omega
                rw [hadd, hS, mkR, if_neg (by simp only [lim]; omega)]
                rfl
              · replace r1 := of_decide_eq_false r1
                try simp only [nc] at r1
                try simp only [minF_t] at r1
                try simp only [minF_f] at r1
                try dsimp only at r1
                refine CallS.pure (div64_spec ((X - Y) / 18446744073709551616) ((X - Y) % 18446744073709551616) h hhp (by omega) (by omega) (by omega) M) rfl (.tup [UA ((X - Y) / h), UA ((X - Y) % h)]) rfl (by rw [eS]; rfl) ?_
                conv => cbv
                refine .u64 (B : Int) rfl (by omega) (by omega) ?_
                conv => cbv
                refine .quoN B g rfl rfl hgp (by omega) ?_
                conv => cbv
                refine .u64 (D : Int) rfl (by omega) (by omega) ?_
                conv => cbv
                refine .quoN D h rfl rfl hhp (by omega) ?_
                conv => cbv
                refine CallS.pure (mul64_spec (B / g) (D / h) (by omega) (Nat.lt_of_le_of_lt (Nat.div_le_self _ _) (by omega)) M) rfl (.tup [UA _, UA _]) rfl rfl ?_
                conv => cbv
                have hdn : (X - Y) / h < 18446744073709551616 := by
                  rw [Nat.div_lt_iff_lt_mul hhp]
                  have := Nat.mul_le_mul_left 18446744073709551616 (show (X - Y) / 18446744073709551616 + 1 ≤ h by omega)
                  omega
                have q5 := Nat.mul_le_mul q2 (Nat.le_trans (Nat.div_le_self D h) d2)
                refine ⟨fun r2 => ?_, fun r2 => ?_⟩
                · replace r2 := of_decide_eq_true r2
                  try simp only [nc] at r2
                  try simp only [minF_t] at r2
                  try simp only [minF_f] at r2
                  try dsimp only at r2
                  refine hK.pure rfl (Mem.le_refl _) ?_
                  have hbig : 18446744073709551616 ≤ B / g * (D / h) := by omega
                  rw [hadd, hB', mkR, if_neg (by simp only [lim]; omega)]
                  rfl
                · replace r2 := of_decide_eq_false r2
                  try simp only [nc] at r2
                  try simp only [minF_t] at r2
                  try simp only [minF_f] at r2
                  try dsimp only at r2
                  have hsm : B / g * (D / h) % 18446744073709551616 = B / g * (D / h) := by omega
                  refine CallS.pure (signed_spec (decide (n < 0)) ((X - Y) / h) (B / g * (D / h)) hdn (by omega) M) (by simp [AV.vals, AV.denL, AV.den, hsm]) (REA _) rfl rfl ?_
                  conv => cbv
                  refine hK.pure rfl (Mem.le_refl _) ?_
                  rw [hadd, hS, ← hmin', hB']
                  rfl
        · replace c2 := of_decide_eq_false c2
          try simp only [nc] at c2
          try simp only [minF_t] at c2
          try simp only [minF_f] at c2
          try dsimp only at c2
          have hle : Y ≤ X := by omega
          obtain ⟨cy, hcy⟩ : ∃ cy : Nat, (if X % 18446744073709551616 < Y % 18446744073709551616 + 0 then 1 else 0) = cy := ⟨_, rfl⟩
          have hcy' : cy = 1 ∧ X % 18446744073709551616 < Y % 18446744073709551616 ∨ cy = 0 ∧ Y % 18446744073709551616 ≤ X % 18446744073709551616 := by
            rw [← hcy]; split <;> omega
          refine CallS.pure (sub64_specC (X % 18446744073709551616) (Y % 18446744073709551616) 0 (by omega) (by omega) (by omega) M) rfl (.tup [UA ((X - Y) % 18446744073709551616), UA cy]) rfl (pairV (by clear hs hadd hh; omega) hcy.symm) ?_
          conv => cbv
          refine CallS.pure (sub64_specC (X / 18446744073709551616) (Y / 18446744073709551616) cy (by omega) (by omega) (by omega) M) rfl (.tup [UA ((X - Y) / 18446744073709551616), UA 0]) rfl (pairV (by clear hs hadd hh; omega) (by rw [if_neg (by omega)])) ?_
          conv => cbv
          have hS : s.natAbs = (X - Y) := by
            by_cases h1 : n < 0 <;> (have := sP1; have := sP2; have := sQ1; have := sQ2; omega)
          have hmin : (X - Y) ≠ 0 → (decide (n < 0)) = decide (s < 0) := by
            intro h0; by_cases h1 : n < 0 <;> simp only [h1, decide_true, decide_false] <;> symm <;> simp <;> (have := sP1; have := sP2; have := sQ1; have := sQ2; omega)
          refine ⟨fun z => ?_, fun z => ?_⟩
          · replace z := of_decide_eq_true z
            try simp only [nc] at z
            try simp only [minF_t] at z
            try simp only [minF_f] at z
            try dsimp only at z
            refine ⟨fun z2 => ?_, fun z2 => ?_⟩
            · replace z2 := of_decide_eq_true z2
              try simp only [nc] at z2
              try simp only [minF_t] at z2
              try simp only [minF_f] at z2
              try dsimp only at z2
              refine hK.pure rfl (Mem.le_refl _) ?_
              have hs0 : s = 0 := by omega
              have : addR ⟨n, B⟩ ⟨m, D⟩ = (⟨0, 1⟩, 0) := by
                simp only [addR, hok, if_true, norm, hnum, hs0]
                simp [mkR, lim, b1, d1]
              rw [this]
              rfl
            · replace z2 := of_decide_eq_false z2
              try simp only [nc] at z2
              try simp only [minF_t] at z2
              try simp only [minF_f] at z2
              try dsimp only at z2
              have hmin' := hmin (by omega)
              have eS : (X - Y) / 18446744073709551616 * 18446744073709551616 + (X - Y) % 18446744073709551616 = (X - Y) := Nat.div_add_mod' _ _
              refine CallS.pure (rem64_spec ((X - Y) / 18446744073709551616) ((X - Y) % 18446744073709551616) g hgp (by omega) (by omega) (by omega) M) rfl (UA ((X - Y) % g)) rfl (by rw [eS]; rfl) ?_
              conv => cbv
              refine CallS.pure (gcd_spec ((X - Y) % g) g M) rfl (UA h) rfl (by rw [← Nat.gcd_rec, Nat.gcd_comm, hh, hS]; rfl) ?_
              conv => cbv
              refine ⟨fun r1 => ?_, fun r1 => ?_⟩
              · replace r1 := of_decide_eq_true r1
                try simp only [nc] at r1
                try simp only [minF_t] at r1
                try simp only [minF_f] at r1
                try dsimp only at r1
                refine hK.pure rfl (Mem.le_refl _) ?_
                have hbig : 18446744073709551616 ≤ (X - Y) / h := by
                  rw [Nat.le_div_iff_mul_le hhp]
                  have := Nat.mul_le_mul_left 18446744073709551616 (show h ≤ (X - Y) / 18446744073709551616 by omega)
                  omega
                rw [hadd, hS, mkR, if_neg (by simp only [lim]; omega)]
                rfl
              · replace r1 := of_decide_eq_false r1
                try simp only [nc] at r1
                try simp only [minF_t] at r1
                try simp only [minF_f] at r1
                try dsimp only at r1
                refine CallS.pure (div64_spec ((X - Y) / 18446744073709551616) ((X - Y) % 18446744073709551616) h hhp (by omega) (by omega) (by omega) M) rfl (.tup [UA ((X - Y) / h), UA ((X - Y) % h)]) rfl (by rw [eS]; rfl) ?_
                conv => cbv
                refine .u64 (B : Int) rfl (by omega) (by omega) ?_
                conv => cbv
                refine .quoN B g rfl rfl hgp (by omega) ?_
                conv => cbv
                refine .u64 (D : Int) rfl (by omega) (by omega) ?_
                conv => cbv
                refine .quoN D h rfl rfl hhp (by omega) ?_
                conv => cbv
                refine CallS.pure (mul64_spec (B / g) (D / h) (by omega) (Nat.lt_of_le_of_lt (Nat.div_le_self _ _) (by omega)) M) rfl (.tup [UA _, UA _]) rfl rfl ?_
                conv => cbv
                have hdn : (X - Y) / h < 18446744073709551616 := by
                  rw [Nat.div_lt_iff_lt_mul hhp]
                  have := Nat.mul_le_mul_left 18446744073709551616 (show (X - Y) / 18446744073709551616 + 1 ≤ h by omega)
                  omega
                have q5 := Nat.mul_le_mul q2 (Nat.le_trans (Nat.div_le_self D h) d2)
                refine ⟨fun r2 => ?_, fun r2 => ?_⟩
                · replace r2 := of_decide_eq_true r2
                  try simp only [nc] at r2
                  try simp only [minF_t] at r2
                  try simp only [minF_f] at r2
                  try dsimp only at r2
                  refine hK.pure rfl (Mem.le_refl _) ?_
                  have hbig : 18446744073709551616 ≤ B / g * (D / h) := by omega
                  rw [hadd, hB', mkR, if_neg (by simp only [lim]; omega)]
                  rfl
                · replace r2 := of_decide_eq_false r2
                  try simp only [nc] at r2
                  try simp only [minF_t] at r2
                  try simp only [minF_f] at r2
                  try dsimp only at r2
                  have hsm : B / g * (D / h) % 18446744073709551616 = B / g * (D / h) := by omega
                  refine CallS.pure (signed_spec (decide (n < 0)) ((X - Y) / h) (B / g * (D / h)) hdn (by omega) M) (by simp [AV.vals, AV.denL, AV.den, hsm]) (REA _) rfl rfl ?_
                  conv => cbv
                  refine hK.pure rfl (Mem.le_refl _) ?_
                  rw [hadd, hS, ← hmin', hB']
                  rfl
          · replace z := of_decide_eq_false z
            try simp only [nc] at z
            try simp only [minF_t] at z
            try simp only [minF_f] at z
            try dsimp only at z
            have hmin' := hmin (by omega)
            have eS : (X - Y) / 18446744073709551616 * 18446744073709551616 + (X - Y) % 18446744073709551616 = (X - Y) := Nat.div_add_mod' _ _
            refine CallS.pure (rem64_spec ((X - Y) / 18446744073709551616) ((X - Y) % 18446744073709551616) g hgp (by omega) (by omega) (by omega) M) rfl (UA ((X - Y) % g)) rfl (by rw [eS]; rfl) ?_
            conv => cbv
            refine CallS.pure (gcd_spec ((X - Y) % g) g M) rfl (UA h) rfl (by rw [← Nat.gcd_rec, Nat.gcd_comm, hh, hS]; rfl) ?_
            conv => cbv
            refine ⟨fun r1 => ?_, fun r1 => ?_⟩
            · replace r1 := of_decide_eq_true r1
              try simp only [nc] at r1
              try simp only [minF_t] at r1
              try simp only [minF_f] at r1
              try dsimp only at r1
              refine hK.pure rfl (Mem.le_refl _) ?_
              have hbig : 18446744073709551616 ≤ (X - Y) / h := by
                rw [Nat.le_div_iff_mul_le hhp]
                have := Nat.mul_le_mul_left 18446744073709551616 (show h ≤ (X - Y) / 18446744073709551616 by omega)
                omega
              rw [hadd, hS, mkR, if_neg (by simp only [lim]; omega)]
              rfl
            · replace r1 := of_decide_eq_false r1
              try simp only [nc] at r1
              try simp only [minF_t] at r1
              try simp only [minF_f] at r1
              try dsimp only at r1
              refine CallS.pure (div64_spec ((X - Y) / 18446744073709551616) ((X - Y) % 18446744073709551616) h hhp (by omega) (by omega) (by omega) M) rfl (.tup [UA ((X - Y) / h), UA ((X - Y) % h)]) rfl (by rw [eS]; rfl) ?_
              conv => cbv
              refine .u64 (B : Int) rfl (by omega) (by omega) ?_
              conv => cbv
              refine .quoN B g rfl rfl hgp (by omega) ?_
              conv => cbv
              refine .u64 (D : Int) rfl (by omega) (by omega) ?_
              conv => cbv
              refine .quoN D h rfl rfl hhp (by omega) ?_
              conv => cbv
              refine CallS.pure (mul64_spec (B / g) (D / h) (by omega) (Nat.lt_of_le_of_lt (Nat.div_le_self _ _) (by omega)) M) rfl (.tup [UA _, UA _]) rfl rfl ?_
              conv => cbv
              have hdn : (X - Y) / h < 18446744073709551616 := by
                rw [Nat.div_lt_iff_lt_mul hhp]
                have := Nat.mul_le_mul_left 18446744073709551616 (show (X - Y) / 18446744073709551616 + 1 ≤ h by omega)
                omega
              have q5 := Nat.mul_le_mul q2 (Nat.le_trans (Nat.div_le_self D h) d2)
              refine ⟨fun r2 => ?_, fun r2 => ?_⟩
              · replace r2 := of_decide_eq_true r2
                try simp only [nc] at r2
                try simp only [minF_t] at r2
                try simp only [minF_f] at r2
                try dsimp only at r2
                refine hK.pure rfl (Mem.le_refl _) ?_
                have hbig : 18446744073709551616 ≤ B / g * (D / h) := by omega
                rw [hadd, hB', mkR, if_neg (by simp only [lim]; omega)]
                rfl
              · replace r2 := of_decide_eq_false r2
                try simp only [nc] at r2
                try simp only [minF_t] at r2
                try simp only [minF_f] at r2
                try dsimp only at r2
                have hsm : B / g * (D / h) % 18446744073709551616 = B / g * (D / h) := by omega
                refine CallS.pure (signed_spec (decide (n < 0)) ((X - Y) / h) (B / g * (D / h)) hdn (by omega) M) (by simp [AV.vals, AV.denL, AV.den, hsm]) (REA _) rfl rfl ?_
                conv => cbv
                refine hK.pure rfl (Mem.le_refl _) ?_
                rw [hadd, hS, ← hmin', hB']
                rfl
  · rw [add_bad hok]
    refine ok78.pure 200 [RA a, RA b] rfl (by kernel_rfl) fun c K hK => ?_
    conv => cbv
    refine CallS.pure (check2_spec a b ha hb M) rfl (EA 8) rfl (by rw [if_neg hok]; rfl) ?_
    conv => cbv
    refine ⟨fun _ => ?_, fun h => by cases h⟩
    refine hK.pure rfl (Mem.le_refl _) ?_
    rfl

theorem subR_spec (a b : R) (ha : a.Wf) (hb : b.Wf) (M : Mem) : Pure1 76 #[RV a, RV b] M (RE (subR a b)) :=
  sub_spec a b ha hb M fun b' hb' => add_spec a b' ha hb' M

end Go.SX
