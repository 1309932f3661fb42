/- Reference of ratios: sum, difference, product, quotient, order. -/
import Derived.Test.YtojdihbanakhgaaRatioA
namespace Go.SX
open Go.Proofs.Try Go.Proofs

structure OkF (a : R) : Prop where
  d1 : 1 ≤ a.d
  d2 : a.d.natAbs ≤ 1000000000000000000
  n : a.n.natAbs ≤ 1000000000000000000
  g : Nat.gcd a.n.natAbs a.d.natAbs = 1

theorem okF {a : R} (h : a.ok = true) : OkF a := by
  have := R.ok_iff.1 h
  simp only [lim] at this
  exact ⟨this.1, this.2.1, this.2.2.1, this.2.2.2⟩

theorem mul_sign {x : Int} {k : Nat} (hk : 0 < k) : (x * (k : Int)).natAbs = x.natAbs * k ∧ (x * (k : Int) < 0 ↔ x < 0) := by
  refine ⟨by rw [Int.natAbs_mul, Int.natAbs_natCast], ?_, ?_⟩
  · intro h
    rcases Int.lt_or_le x 0 with h' | h'
    · exact h'
    · have := Int.mul_nonneg h' (Int.natCast_nonneg k); omega
  · intro h; exact Int.mul_neg_of_neg_of_pos h (by omega)

theorem mul_bound {x y : Nat} (hx : x ≤ 1000000000000000000) (hy : y ≤ 1000000000000000000) : x * y ≤ 1000000000000000000000000000000000000 := Nat.mul_le_mul hx hy

theorem addR_zero {a b : R} (ha : a.ok = true) (hb : b.ok = true) (h : a.n * b.d + b.n * a.d = 0) : addR a b = (⟨0, 1⟩, 0) := by
  have fa := okF ha
  have fb := okF hb
  have hd : 0 < a.d.natAbs * b.d.natAbs := Nat.mul_pos (by have := fa.d1; omega) (by have := fb.d1; omega)
  rw [addR, ha, hb]
  simp only [Bool.and_self, if_true, norm, h, Int.natAbs_zero, Nat.gcd_zero_left, Nat.zero_div, Nat.div_self hd]
  rfl

set_option maxHeartbeats 1000000 in
set_option maxRecDepth 100000 in
theorem add01_spec (a b : R) (ha : a.Wf) (hb : b.Wf) (M : Mem) : Pure1 115 #[RV a, RV b] M (RE (addR a b)) := by
  by_cases hok : (a.ok && b.ok) = true
  · have hok' := hok
    rw [Bool.and_eq_true] at hok'
    obtain ⟨oa, ob⟩ := hok'
    obtain ⟨a1, a2, a3, a4⟩ := okF oa
    obtain ⟨b1, b2, b3, b4⟩ := okF ob
    obtain ⟨g, hg⟩ : ∃ g, Nat.gcd a.d.natAbs b.d.natAbs = g := ⟨_, rfl⟩
    have hgp : 0 < g := by rw [← hg]; exact Nat.gcd_pos_of_pos_left _ (by omega)
    have hga : g ∣ a.d.natAbs := by rw [← hg]; exact Nat.gcd_dvd_left _ _
    have hgb : g ∣ b.d.natAbs := by rw [← hg]; exact Nat.gcd_dvd_right _ _
    have hgle : g ≤ a.d.natAbs := Nat.le_of_dvd (by omega) hga
    have hgle2 : g ≤ b.d.natAbs := Nat.le_of_dvd (by omega) hgb
    obtain ⟨B, hB⟩ : ∃ B, a.d.natAbs / g = B := ⟨_, rfl⟩
    obtain ⟨D, hD⟩ : ∃ D, b.d.natAbs / g = D := ⟨_, rfl⟩
    have hBp : 0 < B := by rw [← hB]; exact Nat.div_pos hgle hgp
    have hDp : 0 < D := by rw [← hD]; exact Nat.div_pos hgle2 hgp
    have hBl : B ≤ 1000000000000000000 := by have := Nat.div_le_self a.d.natAbs g; omega
    have hDl : D ≤ 1000000000000000000 := by have := Nat.div_le_self b.d.natAbs g; omega
    obtain ⟨p1, p2⟩ := mul_sign (x := a.n) hDp
    obtain ⟨q1, q2⟩ := mul_sign (x := b.n) hBp
    have hX := mul_bound a3 hDl
    have hY := mul_bound b3 hBl
    have hsum : a.n * b.d + b.n * a.d = (g : Int) * (a.n * (D : Int) + b.n * (B : Int)) := by
      have e1 : b.d = (g : Int) * (D : Int) := by
        have := Nat.mul_div_cancel' hgb
        rw [hD] at this
        have h2 : ((g * D : Nat) : Int) = (b.d.natAbs : Int) := by rw [this]
        rw [Int.natCast_mul] at h2
        omega
      have e2 : a.d = (g : Int) * (B : Int) := by
        have := Nat.mul_div_cancel' hga
        rw [hB] at this
        have h2 : ((g * B : Nat) : Int) = (a.d.natAbs : Int) := by rw [this]
        rw [Int.natCast_mul] at h2
        omega
      rw [e1, e2, Int.mul_add, Int.mul_left_comm (g : Int) a.n, Int.mul_left_comm (g : Int) b.n]
    have heq := fun h (hh : h = Nat.gcd (a.n * (D : Int) + b.n * (B : Int)).natAbs g) => addR_eq (s := a.n * (D : Int) + b.n * (B : Int)) (h := h) oa ob hg.symm hB.symm hD.symm rfl hh
    have hzero := addR_zero oa ob
    rw [hsum] at hzero
    obtain ⟨p, hp⟩ : ∃ p, a.n * (D : Int) = p := ⟨_, rfl⟩
    obtain ⟨q, hq⟩ : ∃ q, b.n * (B : Int) = q := ⟨_, rfl⟩
    rw [hp] at p1 p2 heq hzero
    rw [hq] at q1 q2 heq hzero
    refine ok115.pure 16 [RA a, RA b] rfl (by kernel_rfl) fun c K hK => ?_
    conv => cbv
    refine CallS.pure (both01_spec a b ha hb M) rfl (.int .i64 0) rfl (by rw [if_pos hok]; rfl) ?_
    conv => cbv
    refine .u64 (a.d.natAbs : Int) (by show a.d = _; omega) (by omega) (by omega) ?_
    conv => cbv
    refine .u64 (b.d.natAbs : Int) (by show b.d = _; omega) (by omega) (by omega) ?_
    conv => cbv
    refine CallS.pure (gcd01_spec a.d.natAbs b.d.natAbs M) rfl (UA g) rfl (by rw [hg]; rfl) ?_
    conv => cbv
    refine .u64 (b.d.natAbs : Int) (by show b.d = _; omega) (by omega) (by omega) ?_
    conv => cbv
    refine .quoN b.d.natAbs g rfl rfl hgp (by omega) ?_
    conv => cbv
    rw [hD]
    refine .u64 (a.d.natAbs : Int) (by show a.d = _; omega) (by omega) (by omega) ?_
    conv => cbv
    refine .quoN a.d.natAbs g rfl rfl hgp (by omega) ?_
    conv => cbv
    rw [hB]
    refine CallS.pure (abs01_spec a.n ha.n M) rfl (UA a.n.natAbs) rfl rfl ?_
    conv => cbv
    refine CallS.pure (times_spec a.n.natAbs D (by omega) (by omega) M) rfl (WA p.natAbs) rfl (by rw [← p1]; rfl) ?_
    conv => cbv
    refine CallS.pure (abs01_spec b.n hb.n M) rfl (UA b.n.natAbs) rfl rfl ?_
    conv => cbv
    refine CallS.pure (times_spec b.n.natAbs B (by omega) (by omega) M) rfl (WA q.natAbs) rfl (by rw [← q1]; rfl) ?_
    conv => cbv
    refine CallS.pure (plus_spec p.natAbs q.natAbs (by simp only [W128]; omega) M) rfl (WA (p.natAbs + q.natAbs)) rfl rfl ?_
    conv => cbv
    refine OKS.cut (κ := Bool) (fun neg => (p + q ≠ 0 → neg = decide (p + q < 0))) (fun neg => [(9, .sb fun _ => neg)]) (fun _ => [(10, .cells 140 [UA ((p + q).natAbs / 18446744073709551616), UA ((p + q).natAbs % 18446744073709551616)])]) (fun _ => M) ?_ fun hj => ?_
    · intro neg hneg
      have hsb : (p + q).natAbs < 340282366920938463463374607431768211456 := by omega
      refine ok115.go 100 (by kernel_rfl) ?_
      conv => cbv
      refine ⟨fun t1 => ?_, fun t1 => ?_⟩
      · have t1 : p + q = 0 := by
          simp [appU] at t1
          omega
        refine hK.pure rfl (Mem.le_refl _) ?_
        rw [hzero (by rw [t1, Int.mul_zero])]
        rfl
      · have t1 : p + q ≠ 0 := fun e => by
          rw [e] at t1
          simp [appU] at t1
        refine CallS.pure (split_spec (p + q).natAbs g hsb hgp (by omega) M) rfl (.tup [WA ((p + q).natAbs / g), UA ((p + q).natAbs % g)]) rfl rfl ?_
        conv => cbv
        obtain ⟨h, hh⟩ : ∃ h, Nat.gcd (p + q).natAbs g = h := ⟨_, rfl⟩
        have hh' : Nat.gcd ((p + q).natAbs % g) g = h := by
          rw [← Nat.gcd_rec, Nat.gcd_comm]
          exact hh
        have hhd : h ∣ g := by rw [← hh]; exact Nat.gcd_dvd_right _ _
        have hhp : 0 < h := dvd_nz hhd hgp
        have hhl := Nat.le_of_dvd hgp hhd
        refine CallS.pure (gcd01_spec ((p + q).natAbs % g) g M) rfl (UA h) rfl (by rw [hh']; rfl) ?_
        conv => cbv
        refine CallS.pure (split_spec (p + q).natAbs h hsb hhp (by omega) M) rfl (.tup [WA ((p + q).natAbs / h), UA ((p + q).natAbs % h)]) rfl rfl ?_
        conv => cbv
        refine .u64 (a.d.natAbs : Int) (by show a.d = _; omega) (by omega) (by omega) ?_
        conv => cbv
        refine .quoN a.d.natAbs g rfl rfl hgp (by omega) ?_
        conv => cbv
        rw [hB]
        refine .u64 (b.d.natAbs : Int) (by show b.d = _; omega) (by omega) (by omega) ?_
        conv => cbv
        refine .quoN b.d.natAbs h rfl rfl hhp (by omega) ?_
        conv => cbv
        have hbl := Nat.div_le_self b.d.natAbs h
        refine CallS.pure (times_spec B (b.d.natAbs / h) (by omega) (by omega) M) rfl (WA (B * (b.d.natAbs / h))) rfl rfl ?_
        conv => cbv
        refine CallS.pure (made01_spec neg ((p + q).natAbs / h) (B * (b.d.natAbs / h)) M) rfl (REA (mkR neg ((p + q).natAbs / h) (B * (b.d.natAbs / h)))) rfl rfl ?_
        conv => cbv
        refine hK.pure rfl (Mem.le_refl _) ?_
        rw [heq h hh.symm, hneg t1]
        rfl
    · refine ok115.go 100 (by kernel_rfl) ?_
      conv => cbv
      refine ⟨fun t1 => ?_, fun t1 => ?_⟩
      · have t1 : (decide (a.n < 0) != decide (b.n < 0)) = true := t1
        have t1 : ¬ (a.n < 0 ↔ b.n < 0) := by
          intro e
          simp [e] at t1
        refine CallS.pure (minus_spec p.natAbs q.natAbs (by simp only [W128]; omega) (by simp only [W128]; omega) M) rfl (WA ((p.natAbs + W128 - q.natAbs) % W128)) rfl rfl ?_
        conv => cbv
        refine CallS.pure (wless_spec p.natAbs q.natAbs M) rfl (.sb fun _ => decide (p.natAbs < q.natAbs)) rfl rfl ?_
        conv => cbv
        refine ⟨fun t2 => ?_, fun t2 => ?_⟩
        · replace t2 := of_decide_eq_true t2
          try simp only [nc] at t2
          try simp only [minF_t] at t2
          try simp only [minF_f] at t2
          try dsimp only at t2
          refine CallS.pure (minus_spec q.natAbs p.natAbs (by simp only [W128]; omega) (by simp only [W128]; omega) M) rfl (WA (p + q).natAbs) rfl (by rw [show (q.natAbs + W128 - p.natAbs) % W128 = (p + q).natAbs by simp only [W128]; omega]; rfl) ?_
          conv => cbv
          refine hj (decide (b.n < 0)) (fun hne => decide_eq_decide.2 (by omega)) _ ?_
          refine ⟨by cbv <;> simp, by cbv <;> simp, by cbv, Mem.le_refl _⟩
        · replace t2 := of_decide_eq_false t2
          try simp only [nc] at t2
          try simp only [minF_t] at t2
          try simp only [minF_f] at t2
          try dsimp only at t2
          have e : (p.natAbs + W128 - q.natAbs) % W128 = (p + q).natAbs := by simp only [W128]; omega
          rw [e]
          refine hj (decide (a.n < 0)) (fun hne => decide_eq_decide.2 (by omega)) _ ?_
          refine ⟨by cbv <;> simp, by cbv <;> simp, by cbv, Mem.le_refl _⟩
      · have t1 : (decide (a.n < 0) != decide (b.n < 0)) = false := t1
        have t1 : a.n < 0 ↔ b.n < 0 := by simpa using t1
        have e : p.natAbs + q.natAbs = (p + q).natAbs := by omega
        refine hj (decide (a.n < 0)) (fun hne => decide_eq_decide.2 (by omega)) _ ⟨by cbv <;> simp, by cbv <;> simp [← e], by cbv, Mem.le_refl _⟩
  · have hok' : (a.ok && b.ok) = false := by simpa using hok
    refine ok115.pure 200 [RA a, RA b] rfl (by kernel_rfl) fun c K hK => ?_
    conv => cbv
    refine CallS.pure (both01_spec a b ha hb M) rfl (.int .i64 8) rfl (by rw [if_neg hok]; rfl) ?_
    conv => cbv
    refine CallS.pure (both01_spec a b ha hb M) rfl (.int .i64 8) rfl (by rw [if_neg hok]; rfl) ?_
    conv => cbv
    refine hK.pure rfl (Mem.le_refl _) ?_
    rw [addR, if_neg hok]
    rfl

end Go.SX
