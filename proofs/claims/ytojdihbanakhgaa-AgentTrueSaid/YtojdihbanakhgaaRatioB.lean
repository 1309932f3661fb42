/- Reference of ratios: difference, product, quotient, order. -/
import Derived.Test.YtojdihbanakhgaaAiD
import Derived.Test.YtojdihbanakhgaaAgH
namespace Go.SX
open Go.Proofs.Try Go.Proofs

def R.neg (a : R) : R := ⟨-a.n, a.d⟩
theorem neg_ok (a : R) : a.neg.ok = a.ok := by
  rw [Bool.eq_iff_iff, R.ok_iff, R.ok_iff]
  simp [R.neg]
theorem subR_eq (a b : R) : subR a b = addR a b.neg := by
  unfold subR addR
  rw [neg_ok]
  simp only [R.neg, Int.neg_mul, Int.sub_eq_add_neg]

theorem neg01_spec (a : R) (ha : a.ok = true) (M : Mem) : Pure1 133 #[RV a] M (RV a.neg) := by
  obtain ⟨a1, a2, a3, a4⟩ := okF ha
  refine ok133.pure 200 [RA a] rfl (by kernel_rfl) fun c K hK => ?_
  conv => cbv
  refine .i64 (-a.n) (by show 0 - a.n = _; omega) (by omega) (by omega) ?_
  conv => cbv
  refine hK.pure rfl (Mem.le_refl _) ?_
  rfl

theorem sub01_spec (a b : R) (ha : a.Wf) (hb : b.Wf) (M : Mem) : Pure1 119 #[RV a, RV b] M (RE (subR a b)) := by
  by_cases hok : (a.ok && b.ok) = true
  · have hok' := hok
    rw [Bool.and_eq_true] at hok'
    obtain ⟨oa, ob⟩ := hok'
    refine ok119.pure 200 [RA a, RA b] rfl (by kernel_rfl) fun c K hK => ?_
    conv => cbv
    refine CallS.pure (both01_spec a b ha hb M) rfl (.int .i64 0) rfl (by rw [if_pos hok]; rfl) ?_
    conv => cbv
    refine CallS.pure (neg01_spec b ob M) rfl (RA b.neg) rfl rfl ?_
    conv => cbv
    refine CallS.pure (add01_spec a b.neg ha (R.Wf.of_ok (by rw [neg_ok]; exact ob)) M) rfl (REA (addR a b.neg)) rfl rfl ?_
    conv => cbv
    refine hK.pure rfl (Mem.le_refl _) ?_
    rw [subR_eq]
    rfl
  · refine ok119.pure 200 [RA a, RA b] rfl (by kernel_rfl) fun c K hK => ?_
    conv => cbv
    refine CallS.pure (both01_spec a b ha hb M) rfl (.int .i64 8) rfl (by rw [if_neg hok]; rfl) ?_
    conv => cbv
    refine CallS.pure (both01_spec a b ha hb M) rfl (.int .i64 8) rfl (by rw [if_neg hok]; rfl) ?_
    conv => cbv
    refine hK.pure rfl (Mem.le_refl _) ?_
    rw [subR, if_neg hok]
    rfl

theorem mul_neg_iff' {x y : Int} : x * y < 0 ↔ (¬ (x < 0 ↔ y < 0)) ∧ x ≠ 0 ∧ y ≠ 0 := by
  constructor
  · intro h
    refine ⟨fun e => ?_, fun e => by rw [e, Int.zero_mul] at h; omega, fun e => by rw [e, Int.mul_zero] at h; omega⟩
    by_cases hx : x < 0
    · have := Int.mul_pos_of_neg_of_neg hx (e.1 hx); omega
    · have hy : ¬ y < 0 := fun k => hx (e.2 k)
      have := Int.mul_nonneg (show 0 ≤ x by omega) (show 0 ≤ y by omega); omega
  · rintro ⟨h1, h2, h3⟩
    by_cases hx : x < 0
    · exact Int.mul_neg_of_neg_of_pos hx (by omega)
    · exact Int.mul_neg_of_pos_of_neg (by omega) (by omega)

set_option maxHeartbeats 1000000 in
set_option maxRecDepth 100000 in
theorem mul01_spec (a b : R) (ha : a.Wf) (hb : b.Wf) (M : Mem) : Pure1 128 #[RV a, RV b] M (RE (mulR a b)) := by
  by_cases hok : (a.ok && b.ok) = true
  · have hok' := hok
    rw [Bool.and_eq_true] at hok'
    obtain ⟨oa, ob⟩ := hok'
    obtain ⟨a1, a2, a3, a4⟩ := okF oa
    obtain ⟨b1, b2, b3, b4⟩ := okF ob
    obtain ⟨g, hg⟩ : ∃ g, Nat.gcd a.n.natAbs b.d.natAbs = g := ⟨_, rfl⟩
    obtain ⟨h, hh⟩ : ∃ h, Nat.gcd b.n.natAbs a.d.natAbs = h := ⟨_, rfl⟩
    have hgp : 0 < g := by rw [← hg]; exact Nat.gcd_pos_of_pos_right _ (by omega)
    have hhp : 0 < h := by rw [← hh]; exact Nat.gcd_pos_of_pos_right _ (by omega)
    have hgl : g ≤ b.d.natAbs := by rw [← hg]; exact Nat.le_of_dvd (by omega) (Nat.gcd_dvd_right _ _)
    have hhl : h ≤ a.d.natAbs := by rw [← hh]; exact Nat.le_of_dvd (by omega) (Nat.gcd_dvd_right _ _)
    have l1 := Nat.div_le_self a.n.natAbs g
    have l2 := Nat.div_le_self b.n.natAbs h
    have l3 := Nat.div_le_self a.d.natAbs h
    have l4 := Nat.div_le_self b.d.natAbs g
    have hres : mulR a b = mkR (decide (a.n * b.n < 0)) (a.n.natAbs / g * (b.n.natAbs / h)) (a.d.natAbs / h * (b.d.natAbs / g)) := by
      rw [mulR, if_pos hok]
      exact mul_eq (by omega) (by omega) a4 b4 hg.symm hh.symm
    rw [hres]
    refine ok128.pure 200 [RA a, RA b] rfl (by kernel_rfl) fun c K hK => ?_
    conv => cbv
    refine CallS.pure (both01_spec a b ha hb M) rfl (.int .i64 0) rfl (by rw [if_pos hok]; rfl) ?_
    conv => cbv
    refine .u64 (b.d.natAbs : Int) (by show b.d = _; omega) (by omega) (by omega) ?_
    conv => cbv
    refine .u64 (a.d.natAbs : Int) (by show a.d = _; omega) (by omega) (by omega) ?_
    conv => cbv
    refine CallS.pure (abs01_spec a.n ha.n M) rfl (UA a.n.natAbs) rfl rfl ?_
    conv => cbv
    refine CallS.pure (gcd01_spec a.n.natAbs b.d.natAbs M) rfl (UA g) rfl (by rw [hg]; rfl) ?_
    conv => cbv
    refine CallS.pure (abs01_spec b.n hb.n M) rfl (UA b.n.natAbs) rfl rfl ?_
    conv => cbv
    refine CallS.pure (gcd01_spec b.n.natAbs a.d.natAbs M) rfl (UA h) rfl (by rw [hh]; rfl) ?_
    conv => cbv
    refine ⟨fun t1 => ?_, fun t1 => ?_⟩
    · have t1 : (decide (a.n < 0) != decide (b.n < 0)) = true := t1
      have t1 : ¬ (a.n < 0 ↔ b.n < 0) := by
        intro e
        simp [e] at t1
      refine ⟨fun t2 => ?_, fun t2 => ?_⟩
      · replace t2 := of_decide_eq_true t2
        try simp only [nc] at t2
        try simp only [minF_t] at t2
        try simp only [minF_f] at t2
        try dsimp only at t2
        have e : decide (a.n * b.n < 0) = decide (¬ b.n = 0) := decide_eq_decide.2 (by rw [mul_neg_iff']; exact ⟨fun h => h.2.2, fun h => ⟨t1, t2, h⟩⟩)
        refine .u64 (a.d.natAbs : Int) (by show a.d = _; omega) (by omega) (by omega) ?_
        conv => cbv
        refine .quoN a.d.natAbs h rfl rfl hhp (by omega) ?_
        conv => cbv
        refine .u64 (b.d.natAbs : Int) (by show b.d = _; omega) (by omega) (by omega) ?_
        conv => cbv
        refine .quoN b.d.natAbs g rfl rfl hgp (by omega) ?_
        conv => cbv
        refine CallS.pure (abs01_spec a.n ha.n M) rfl (UA a.n.natAbs) rfl rfl ?_
        conv => cbv
        refine .quoN a.n.natAbs g rfl rfl hgp (by omega) ?_
        conv => cbv
        refine CallS.pure (abs01_spec b.n hb.n M) rfl (UA b.n.natAbs) rfl rfl ?_
        conv => cbv
        refine .quoN b.n.natAbs h rfl rfl hhp (by omega) ?_
        conv => cbv
        refine CallS.pure (times_spec (a.n.natAbs / g) (b.n.natAbs / h) (by omega) (by omega) M) rfl (WA (a.n.natAbs / g * (b.n.natAbs / h))) rfl rfl ?_
        conv => cbv
        refine CallS.pure (times_spec (a.d.natAbs / h) (b.d.natAbs / g) (by omega) (by omega) M) rfl (WA (a.d.natAbs / h * (b.d.natAbs / g))) rfl rfl ?_
        conv => cbv
        refine CallS.pure (made01_spec (decide (a.n * b.n < 0)) (a.n.natAbs / g * (b.n.natAbs / h)) (a.d.natAbs / h * (b.d.natAbs / g)) M) (by rw [e]; rfl) (REA (mkR (decide (a.n * b.n < 0)) (a.n.natAbs / g * (b.n.natAbs / h)) (a.d.natAbs / h * (b.d.natAbs / g)))) rfl rfl ?_
        conv => cbv
        refine hK.pure rfl (Mem.le_refl _) ?_
        rfl
      · replace t2 := of_decide_eq_false t2
        try simp only [nc] at t2
        try simp only [minF_t] at t2
        try simp only [minF_f] at t2
        try dsimp only at t2
        have e : decide (a.n * b.n < 0) = false := decide_eq_false (by rw [mul_neg_iff']; exact fun h => h.2.1 (by omega))
        refine .u64 (a.d.natAbs : Int) (by show a.d = _; omega) (by omega) (by omega) ?_
        conv => cbv
        refine .quoN a.d.natAbs h rfl rfl hhp (by omega) ?_
        conv => cbv
        refine .u64 (b.d.natAbs : Int) (by show b.d = _; omega) (by omega) (by omega) ?_
        conv => cbv
        refine .quoN b.d.natAbs g rfl rfl hgp (by omega) ?_
        conv => cbv
        refine CallS.pure (abs01_spec a.n ha.n M) rfl (UA a.n.natAbs) rfl rfl ?_
        conv => cbv
        refine .quoN a.n.natAbs g rfl rfl hgp (by omega) ?_
        conv => cbv
        refine CallS.pure (abs01_spec b.n hb.n M) rfl (UA b.n.natAbs) rfl rfl ?_
        conv => cbv
        refine .quoN b.n.natAbs h rfl rfl hhp (by omega) ?_
        conv => cbv
        refine CallS.pure (times_spec (a.n.natAbs / g) (b.n.natAbs / h) (by omega) (by omega) M) rfl (WA (a.n.natAbs / g * (b.n.natAbs / h))) rfl rfl ?_
        conv => cbv
        refine CallS.pure (times_spec (a.d.natAbs / h) (b.d.natAbs / g) (by omega) (by omega) M) rfl (WA (a.d.natAbs / h * (b.d.natAbs / g))) rfl rfl ?_
        conv => cbv
        refine CallS.pure (made01_spec (decide (a.n * b.n < 0)) (a.n.natAbs / g * (b.n.natAbs / h)) (a.d.natAbs / h * (b.d.natAbs / g)) M) (by rw [e]; rfl) (REA (mkR (decide (a.n * b.n < 0)) (a.n.natAbs / g * (b.n.natAbs / h)) (a.d.natAbs / h * (b.d.natAbs / g)))) rfl rfl ?_
        conv => cbv
        refine hK.pure rfl (Mem.le_refl _) ?_
        rfl
    · have t1 : (decide (a.n < 0) != decide (b.n < 0)) = false := t1
      have t1 : a.n < 0 ↔ b.n < 0 := by simpa using t1
      have e : decide (a.n * b.n < 0) = false := decide_eq_false (by rw [mul_neg_iff']; exact fun h => h.1 t1)
      refine .u64 (a.d.natAbs : Int) (by show a.d = _; omega) (by omega) (by omega) ?_
      conv => cbv
      refine .quoN a.d.natAbs h rfl rfl hhp (by omega) ?_
      conv => cbv
      refine .u64 (b.d.natAbs : Int) (by show b.d = _; omega) (by omega) (by omega) ?_
      conv => cbv
      refine .quoN b.d.natAbs g rfl rfl hgp (by omega) ?_
      conv => cbv
      refine CallS.pure (abs01_spec a.n ha.n M) rfl (UA a.n.natAbs) rfl rfl ?_
      conv => cbv
      refine .quoN a.n.natAbs g rfl rfl hgp (by omega) ?_
      conv => cbv
      refine CallS.pure (abs01_spec b.n hb.n M) rfl (UA b.n.natAbs) rfl rfl ?_
      conv => cbv
      refine .quoN b.n.natAbs h rfl rfl hhp (by omega) ?_
      conv => cbv
      refine CallS.pure (times_spec (a.n.natAbs / g) (b.n.natAbs / h) (by omega) (by omega) M) rfl (WA (a.n.natAbs / g * (b.n.natAbs / h))) rfl rfl ?_
      conv => cbv
      refine CallS.pure (times_spec (a.d.natAbs / h) (b.d.natAbs / g) (by omega) (by omega) M) rfl (WA (a.d.natAbs / h * (b.d.natAbs / g))) rfl rfl ?_
      conv => cbv
      refine CallS.pure (made01_spec (decide (a.n * b.n < 0)) (a.n.natAbs / g * (b.n.natAbs / h)) (a.d.natAbs / h * (b.d.natAbs / g)) M) (by rw [e]; rfl) (REA (mkR (decide (a.n * b.n < 0)) (a.n.natAbs / g * (b.n.natAbs / h)) (a.d.natAbs / h * (b.d.natAbs / g)))) rfl rfl ?_
      conv => cbv
      refine hK.pure rfl (Mem.le_refl _) ?_
      rfl
  · refine ok128.pure 200 [RA a, RA b] rfl (by kernel_rfl) fun c K hK => ?_
    conv => cbv
    refine CallS.pure (both01_spec a b ha hb M) rfl (.int .i64 8) rfl (by rw [if_neg hok]; rfl) ?_
    conv => cbv
    refine CallS.pure (both01_spec a b ha hb M) rfl (.int .i64 8) rfl (by rw [if_neg hok]; rfl) ?_
    conv => cbv
    refine hK.pure rfl (Mem.le_refl _) ?_
    rw [mulR, if_neg hok]
    rfl

theorem div01_spec (a b : R) (ha : a.Wf) (hb : b.Wf) (M : Mem) : Pure1 118 #[RV a, RV b] M (RE (divR a b)) := by
  by_cases hok : (a.ok && b.ok) = true
  · have hok' := hok
    rw [Bool.and_eq_true] at hok'
    obtain ⟨oa, ob⟩ := hok'
    obtain ⟨b1, b2, b3, b4⟩ := okF ob
    refine ok118.pure 200 [RA a, RA b] rfl (by kernel_rfl) fun c K hK => ?_
    conv => cbv
    refine CallS.pure (both01_spec a b ha hb M) rfl (.int .i64 0) rfl (by rw [if_pos hok]; rfl) ?_
    conv => cbv
    refine ⟨fun t1 => ?_, fun t1 => ?_⟩
    · replace t1 := of_decide_eq_true t1
      try simp only [nc] at t1
      try simp only [minF_t] at t1
      try simp only [minF_f] at t1
      try dsimp only at t1
      refine hK.pure rfl (Mem.le_refl _) ?_
      rw [divR, if_pos hok, if_pos t1]
      rfl
    · replace t1 := of_decide_eq_false t1
      try simp only [nc] at t1
      try simp only [minF_t] at t1
      try simp only [minF_f] at t1
      try dsimp only at t1
      refine ⟨fun t2 => ?_, fun t2 => ?_⟩
      · replace t2 := of_decide_eq_true t2
        try simp only [nc] at t2
        try simp only [minF_t] at t2
        try simp only [minF_f] at t2
        try dsimp only at t2
        refine .i64 (-b.d) (by show 0 - b.d = _; omega) (by omega) (by omega) ?_
        conv => cbv
        refine .i64 (-b.n) (by show 0 - b.n = _; omega) (by omega) (by omega) ?_
        conv => cbv
        have oc : (⟨-b.d, -b.n⟩ : R).ok = true := R.ok_iff.2 ⟨by show 1 ≤ -b.n; omega, by show (-b.n).natAbs ≤ lim; simp only [lim]; omega, by show (-b.d).natAbs ≤ lim; simp only [lim]; omega, by show Nat.gcd (-b.d).natAbs (-b.n).natAbs = 1; rw [Int.natAbs_neg, Int.natAbs_neg, Nat.gcd_comm]; exact b4⟩
        refine CallS.pure (mul01_spec a ⟨-b.d, -b.n⟩ ha (R.Wf.of_ok oc) M) rfl (REA (mulR a ⟨-b.d, -b.n⟩)) rfl rfl ?_
        conv => cbv
        refine hK.pure rfl (Mem.le_refl _) ?_
        have e : mulR a ⟨-b.d, -b.n⟩ = divR a b := by
          rw [divR, if_pos hok, if_neg t1, mulR, oa, oc]
          simp only [Bool.and_self, if_true, if_pos t2, Int.mul_neg, Int.natAbs_neg]
        rw [← e]
        rfl
      · replace t2 := of_decide_eq_false t2
        try simp only [nc] at t2
        try simp only [minF_t] at t2
        try simp only [minF_f] at t2
        try dsimp only at t2
        have oc : (⟨b.d, b.n⟩ : R).ok = true := R.ok_iff.2 ⟨by show 1 ≤ b.n; omega, by show b.n.natAbs ≤ lim; simp only [lim]; omega, by show b.d.natAbs ≤ lim; simp only [lim]; omega, by show Nat.gcd b.d.natAbs b.n.natAbs = 1; rw [Nat.gcd_comm]; exact b4⟩
        refine CallS.pure (mul01_spec a ⟨b.d, b.n⟩ ha (R.Wf.of_ok oc) M) rfl (REA (mulR a ⟨b.d, b.n⟩)) rfl rfl ?_
        conv => cbv
        refine hK.pure rfl (Mem.le_refl _) ?_
        have e : mulR a ⟨b.d, b.n⟩ = divR a b := by
          rw [divR, if_pos hok, if_neg t1, mulR, oa, oc]
          simp only [Bool.and_self, if_true, if_neg t2]
        rw [← e]
        rfl
  · refine ok118.pure 200 [RA a, RA b] rfl (by kernel_rfl) fun c K hK => ?_
    conv => cbv
    refine CallS.pure (both01_spec a b ha hb M) rfl (.int .i64 8) rfl (by rw [if_neg hok]; rfl) ?_
    conv => cbv
    refine CallS.pure (both01_spec a b ha hb M) rfl (.int .i64 8) rfl (by rw [if_neg hok]; rfl) ?_
    conv => cbv
    refine hK.pure rfl (Mem.le_refl _) ?_
    rw [divR, if_neg hok]
    rfl

theorem less01_spec (a b : R) (oa : a.ok = true) (ob : b.ok = true) (M : Mem) : Pure1 113 #[RV a, RV b] M (.bool (ltR a b)) := by
  obtain ⟨a1, a2, a3, a4⟩ := okF oa
  obtain ⟨b1, b2, b3, b4⟩ := okF ob
  have ha := R.Wf.of_ok oa
  have hb := R.Wf.of_ok ob
  obtain ⟨p1, p2⟩ := mul_sign (x := a.n) (k := b.d.natAbs) (by omega)
  obtain ⟨q1, q2⟩ := mul_sign (x := b.n) (k := a.d.natAbs) (by omega)
  have hlt : ltR a b = decide (a.n * (b.d.natAbs : Int) < b.n * (a.d.natAbs : Int)) := by
    rw [ltR, show (b.d.natAbs : Int) = b.d by omega, show (a.d.natAbs : Int) = a.d by omega]
  have hX := mul_bound a3 b2
  have hY := mul_bound b3 a2
  obtain ⟨p, hp⟩ : ∃ p, a.n * (b.d.natAbs : Int) = p := ⟨_, rfl⟩
  obtain ⟨q, hq⟩ : ∃ q, b.n * (a.d.natAbs : Int) = q := ⟨_, rfl⟩
  rw [hp] at p1 p2 hlt
  rw [hq] at q1 q2 hlt
  rw [hlt]
  refine ok113.pure 200 [RA a, RA b] rfl (by kernel_rfl) fun c K hK => ?_
  conv => cbv
  refine ⟨fun t1 => ?_, fun t1 => ?_⟩
  · have t1 : (decide (a.n < 0) != decide (b.n < 0)) = true := t1
    have t1 : ¬ (a.n < 0 ↔ b.n < 0) := by
      intro e
      simp [e] at t1
    refine hK.pure rfl (Mem.le_refl _) ?_
    exact congrArg Value.bool (decide_eq_decide.2 (by show a.n < 0 ↔ _; omega))
  · have t1 : (decide (a.n < 0) != decide (b.n < 0)) = false := t1
    have t1 : a.n < 0 ↔ b.n < 0 := by simpa using t1
    refine .u64 (b.d.natAbs : Int) (by show b.d = _; omega) (by omega) (by omega) ?_
    conv => cbv
    refine .u64 (a.d.natAbs : Int) (by show a.d = _; omega) (by omega) (by omega) ?_
    conv => cbv
    refine CallS.pure (abs01_spec a.n ha.n M) rfl (UA a.n.natAbs) rfl rfl ?_
    conv => cbv
    refine CallS.pure (times_spec a.n.natAbs b.d.natAbs (by omega) (by omega) M) rfl (WA p.natAbs) rfl (by rw [← p1]; rfl) ?_
    conv => cbv
    refine CallS.pure (abs01_spec b.n hb.n M) rfl (UA b.n.natAbs) rfl rfl ?_
    conv => cbv
    refine CallS.pure (times_spec b.n.natAbs a.d.natAbs (by omega) (by omega) M) rfl (WA q.natAbs) rfl (by rw [← q1]; rfl) ?_
    conv => cbv
    refine ⟨fun t2 => ?_, fun t2 => ?_⟩
    · replace t2 := of_decide_eq_true t2
      try simp only [nc] at t2
      try simp only [minF_t] at t2
      try simp only [minF_f] at t2
      try dsimp only at t2
      refine CallS.pure (wless_spec q.natAbs p.natAbs M) rfl (.sb fun _ => decide (q.natAbs < p.natAbs)) rfl rfl ?_
      conv => cbv
      refine hK.pure rfl (Mem.le_refl _) ?_
      exact congrArg Value.bool (decide_eq_decide.2 (by omega))
    · replace t2 := of_decide_eq_false t2
      try simp only [nc] at t2
      try simp only [minF_t] at t2
      try simp only [minF_f] at t2
      try dsimp only at t2
      refine CallS.pure (wless_spec p.natAbs q.natAbs M) rfl (.sb fun _ => decide (p.natAbs < q.natAbs)) rfl rfl ?_
      conv => cbv
      refine hK.pure rfl (Mem.le_refl _) ?_
      exact congrArg Value.bool (decide_eq_decide.2 (by omega))

theorem make23_spec (M : Mem) : Pure1 62 #[EV 2, EV 3] M (RE (⟨2, 3⟩, 0)) := by
  refine ok62.pure 200 [.int .i64 2, .int .i64 3] rfl (by kernel_rfl) fun c K hK => ?_
  conv => cbv
  refine CallS.pure (abs01_spec 2 (by simp [I64]) M) rfl (.int .u64 2) rfl rfl ?_
  conv => cbv
  refine CallS.pure (abs01_spec 3 (by simp [I64]) M) rfl (.int .u64 3) rfl rfl ?_
  conv => cbv
  refine CallS.pure (gcd01_spec 2 3 M) rfl (.int .u64 1) rfl rfl ?_
  conv => cbv
  refine .quoN 2 1 rfl rfl (by decide) (by decide) ?_
  conv => cbv
  refine .quoN 3 1 rfl rfl (by decide) (by decide) ?_
  conv => cbv
  refine CallS.pure (made01_spec false 2 3 M) rfl (REA (⟨2, 3⟩, 0)) rfl rfl ?_
  conv => cbv
  refine hK.pure rfl (Mem.le_refl _) ?_
  rfl

end Go.SX

/- Ratios, plainly: the order; what is reckoned is in the range. -/
namespace Go.SX
open Go.Proofs.Try Go.Proofs

theorem of60_spec (n : Int) (_h : I64 n) (M : Mem) : Pure1 60 #[EV n] M (RV (R.of n)) := by
  refine ok60.pure 200 [EA n] rfl (by kernel_rfl) fun c K hK => ?_
  conv => cbv
  refine hK.pure rfl (Mem.le_refl _) ?_
  rfl

theorem of_ok {n : Int} (h : n.natAbs ≤ 1000000000000000000) : (R.of n).ok = true := by
  refine R.ok_iff.2 ⟨by simp [R.of], by simp [R.of, lim], ?_, by simp [R.of]⟩
  simp only [R.of, lim]; exact h

theorem lessC_eq {a b : R} (ha : a.ok = true) (hb : b.ok = true) : lessC a b = ltR a b := by rw [lessC, ha, hb]; simp

/-! ### What is reckoned is in the range -/

theorem norm_ok {n : Int} {d : Nat} (hd : 0 < d) (h : (norm n d).2 = 0) : (norm n d).1.ok = true := by
  unfold norm at h ⊢
  obtain ⟨g, hg⟩ : ∃ g, Nat.gcd n.natAbs d = g := ⟨_, rfl⟩
  have hgp : 0 < g := by rw [← hg]; exact Nat.gcd_pos_of_pos_right _ hd
  have hgd : g ∣ d := by rw [← hg]; exact Nat.gcd_dvd_right _ _
  have hc : Nat.gcd (n.natAbs / g) (d / g) = 1 := by rw [← hg]; exact Nat.coprime_div_gcd_div_gcd (by rw [hg]; exact hgp)
  have hdp : 0 < d / g := Nat.div_pos (Nat.le_of_dvd hd hgd) hgp
  rw [hg] at h ⊢
  unfold mkR at h ⊢
  split at h
  · rename_i hl
    rw [if_pos hl]
    refine R.ok_iff.2 ⟨by show (1 : Int) ≤ ((d / g : Nat) : Int); omega, by show ((d / g : Nat) : Int).natAbs ≤ lim; rw [Int.natAbs_natCast]; exact hl.2, ?_, ?_⟩
    · show (if _ then _ else _ : Int).natAbs ≤ lim
      split
      · rw [Int.natAbs_neg, Int.natAbs_natCast]; exact hl.1
      · rw [Int.natAbs_natCast]; exact hl.1
    · show Nat.gcd (if _ then _ else _ : Int).natAbs ((d / g : Nat) : Int).natAbs = 1
      rw [Int.natAbs_natCast]
      split
      · rw [Int.natAbs_neg, Int.natAbs_natCast]; exact hc
      · rw [Int.natAbs_natCast]; exact hc
  · cases h

theorem mkR_bad0 {x : Bool} {n d : Nat} (h : (mkR x n d).2 ≠ 0) : (mkR x n d).1 = R.zero := by
  unfold mkR at h ⊢
  split at h
  · exact absurd rfl h
  · rename_i hl; rw [if_neg hl]

section
variable {a b : R}
theorem den_pos {a b : R} (h : (a.ok && b.ok) = true) : 0 < a.d.natAbs * b.d.natAbs := by
  rw [Bool.and_eq_true] at h
  have h1 := (okF h.1).d1
  have h2 := (okF h.2).d1
  exact Nat.mul_pos (by omega) (by omega)
theorem addR_ok (h : (addR a b).2 = 0) : (addR a b).1.ok = true := by
  unfold addR at h ⊢
  split at h
  · rename_i ho; rw [if_pos ho]; exact norm_ok (den_pos ho) h
  · cases h
theorem subR_ok (h : (subR a b).2 = 0) : (subR a b).1.ok = true := by
  unfold subR at h ⊢
  split at h
  · rename_i ho; rw [if_pos ho]; exact norm_ok (den_pos ho) h
  · cases h
theorem mulR_ok (h : (mulR a b).2 = 0) : (mulR a b).1.ok = true := by
  unfold mulR at h ⊢
  split at h
  · rename_i ho; rw [if_pos ho]; exact norm_ok (den_pos ho) h
  · cases h
theorem divR_ok (h : (divR a b).2 = 0) : (divR a b).1.ok = true := by
  unfold divR at h ⊢
  split at h
  · rename_i ho
    rw [if_pos ho]
    split at h
    · cases h
    · rename_i h0
      rw [if_neg h0]
      rw [Bool.and_eq_true] at ho
      have h1 := (okF ho.1).d1
      exact norm_ok (Nat.mul_pos (by omega) (by omega)) h
  · cases h
theorem addR_zero' (h : (addR a b).2 ≠ 0) : (addR a b).1 = R.zero := by
  unfold addR at h ⊢
  split at h
  · rename_i ho; rw [if_pos ho]; exact mkR_bad0 h
  · rename_i ho; rw [if_neg ho]
end

theorem addR_of0 {s : R} (h : s.ok = true) : addR s (R.of 0) = (s, 0) := by
  obtain ⟨h1, h2, h3, h4⟩ := okF h
  rw [addR, h, of_ok (by simp)]
  simp only [Bool.and_self, if_true, R.of, Int.mul_one, Int.zero_mul, Int.add_zero, norm]
  rw [show s.d.natAbs * (1 : Int).natAbs = s.d.natAbs by simp, h4, Nat.div_one, Nat.div_one, mkR, if_pos ⟨by simp only [lim]; omega, by simp only [lim]; omega⟩]
  congr 1
  cases s with
  | mk n d =>
    simp only at *
    congr 1
    · by_cases e : n < 0
      · simp only [e, decide_true, if_true]; omega
      · simp only [e, decide_false, if_false, Bool.false_eq_true]; omega
    · omega

/-! ### The order -/

theorem ltR_iff {a b : R} : ltR a b = true ↔ a.n * b.d < b.n * a.d := by simp [ltR]
theorem nltR_iff {a b : R} : ltR a b = false ↔ b.n * a.d ≤ a.n * b.d := by simp [ltR]

/-- Less and then not greater. -/
theorem lt_le {a b c : R} (ha : a.ok = true) (hb : b.ok = true) (hc : c.ok = true) (h1 : ltR a b = true) (h2 : ltR c b = false) : ltR a c = true := by
  rw [ltR_iff] at *
  rw [nltR_iff] at h2
  have a1 := (okF ha).d1
  have b1 := (okF hb).d1
  have c1 := (okF hc).d1
  have k1 : a.n * b.d * c.d < b.n * a.d * c.d := Int.mul_lt_mul_of_pos_right h1 (by omega)
  have k2 : b.n * c.d * a.d ≤ c.n * b.d * a.d := Int.mul_le_mul_of_nonneg_right h2 (by omega)
  have e1 : a.n * b.d * c.d = a.n * c.d * b.d := Int.mul_right_comm ..
  have e2 : b.n * a.d * c.d = b.n * c.d * a.d := Int.mul_right_comm ..
  have e3 : c.n * b.d * a.d = c.n * a.d * b.d := Int.mul_right_comm ..
  rw [e1, e2] at k1
  rw [e3] at k2
  exact Int.lt_of_mul_lt_mul_right (Int.lt_of_lt_of_le k1 k2) (by omega)

/-- Not greater and then less. -/
theorem le_lt {a b c : R} (ha : a.ok = true) (hb : b.ok = true) (hc : c.ok = true) (h1 : ltR b a = false) (h2 : ltR b c = true) : ltR a c = true := by
  rw [ltR_iff] at *
  rw [nltR_iff] at h1
  have a1 := (okF ha).d1
  have b1 := (okF hb).d1
  have c1 := (okF hc).d1
  have k1 : b.n * c.d * a.d < c.n * b.d * a.d := Int.mul_lt_mul_of_pos_right h2 (by omega)
  have k2 : a.n * b.d * c.d ≤ b.n * a.d * c.d := Int.mul_le_mul_of_nonneg_right h1 (by omega)
  have e1 : a.n * b.d * c.d = a.n * c.d * b.d := Int.mul_right_comm ..
  have e2 : b.n * a.d * c.d = b.n * c.d * a.d := Int.mul_right_comm ..
  have e3 : c.n * b.d * a.d = c.n * a.d * b.d := Int.mul_right_comm ..
  rw [e1, e2] at k2
  rw [e3] at k1
  exact Int.lt_of_mul_lt_mul_right (Int.lt_of_le_of_lt k2 k1) (by omega)

theorem lt_asymm' {a b : R} (h : ltR a b = true) : ltR b a = false := by
  rw [ltR_iff] at h
  rw [nltR_iff]
  omega
theorem lt_trans' {a b c : R} (ha : a.ok = true) (hb : b.ok = true) (hc : c.ok = true) (h1 : ltR a b = true) (h2 : ltR b c = true) : ltR a c = true :=
  le_lt ha hb hc (lt_asymm' h1) h2
theorem le_trans' {a b c : R} (ha : a.ok = true) (hb : b.ok = true) (hc : c.ok = true) (h1 : ltR b a = false) (h2 : ltR c b = false) : ltR c a = false := by
  cases h : ltR c a with
  | false => rfl
  | true => have := lt_le hc ha hb h h1; rw [h2] at this; cases this
theorem lt_irrefl' (a : R) : ltR a a = false := by simp [ltR]
theorem ltR_of {m n : Int} : ltR (R.of m) (R.of n) = decide (m < n) := by simp [ltR, R.of]

def laterR (a b : R) : R := if ltR a b then b else a
def soonerR (a b : R) : R := if ltR a b then a else b
theorem laterR_ok {a b : R} (ha : a.ok = true) (hb : b.ok = true) : (laterR a b).ok = true := by unfold laterR; split <;> assumption
theorem soonerR_ok {a b : R} (ha : a.ok = true) (hb : b.ok = true) : (soonerR a b).ok = true := by unfold soonerR; split <;> assumption

/-- The difference of a greater and a lesser one is greater than 0. -/
theorem subR_pos {v w : R} (hv : v.ok = true) (hw : w.ok = true) (h : ltR w v = true) (h0 : (subR v w).2 = 0) : 0 < (subR v w).1.n := by
  rw [ltR_iff] at h
  have ho : (v.ok && w.ok) = true := by rw [hv, hw]; rfl
  have hd := den_pos ho
  rw [subR, if_pos ho] at h0 ⊢
  unfold norm at h0 ⊢
  obtain ⟨x, hx⟩ : ∃ x, v.n * w.d - w.n * v.d = x := ⟨_, rfl⟩
  have hxp : 0 < x := by omega
  rw [hx] at h0 ⊢
  obtain ⟨g, hg⟩ : ∃ g, Nat.gcd x.natAbs (v.d.natAbs * w.d.natAbs) = g := ⟨_, rfl⟩
  have hgd : g ∣ x.natAbs := by rw [← hg]; exact Nat.gcd_dvd_left _ _
  have hgp : 0 < g := by rw [← hg]; exact Nat.gcd_pos_of_pos_right _ hd
  have hq : 0 < x.natAbs / g := Nat.div_pos (Nat.le_of_dvd (by omega) hgd) hgp
  rw [hg] at h0 ⊢
  unfold mkR at h0 ⊢
  split at h0
  · rename_i hl
    rw [if_pos hl]
    show 0 < (if decide (x < 0) = true then -((x.natAbs / g : Nat) : Int) else ((x.natAbs / g : Nat) : Int))
    rw [if_neg (by simp; omega)]
    omega
  · cases h0

end Go.SX
