/- Package ratio: product, quotient, order. -/
import Derived.Test.YtojdihbanakhgaaAgB
namespace Go.SX
open Go.Proofs.Try Go.Proofs

abbrev RE (x : R × Int) : Value := .tuple #[RV x.1, EV x.2]
abbrev REA (x : R × Int) : AV := .tup [RA x.1, EA x.2]

theorem isnan_i64 (a : Int) (M : Mem) : Pure1 134 #[EV a] M (.bool false) := by
  refine ok134.pure 200 [EA a] rfl (by kernel_rfl) fun c K hK => ?_
  conv => cbv
  refine hK.pure rfl (Mem.le_refl _) ?_
  simp [AV.val, AV.den]

theorem isnan_u64 (a : Int) (M : Mem) : Pure1 135 #[.int .u64 a] M (.bool false) := by
  refine ok135.pure 200 [.sym .u64 fun _ => a] rfl (by kernel_rfl) fun c K hK => ?_
  conv => cbv
  refine hK.pure rfl (Mem.le_refl _) ?_
  simp [AV.val, AV.den]

def cmpI (a b : Int) : Int := if a < b then -1 else if b < a then 1 else 0

theorem compare_u64 (a b : Int) (M : Mem) : Pure1 122 #[.int .u64 a, .int .u64 b] M (EV (cmpI a b)) := by
  refine ok122.pure 200 [.sym .u64 fun _ => a, .sym .u64 fun _ => b] rfl (by kernel_rfl) fun c K hK => ?_
  conv => cbv
  refine CallS.pure (isnan_u64 a M) rfl .ff rfl rfl ?_
  conv => cbv
  refine CallS.pure (isnan_u64 b M) rfl .ff rfl rfl ?_
  conv => cbv
  refine ⟨fun h => ?_, fun h => ?_⟩
  · replace h := of_decide_eq_true h
    try simp only [nc] at h
    try simp only [minF_t] at h
    try simp only [minF_f] at h
    try dsimp only at h
    refine hK.pure rfl (Mem.le_refl _) ?_
    simp only [cmpI, if_pos h]
    rfl
  · replace h := of_decide_eq_false h
    try simp only [nc] at h
    try simp only [minF_t] at h
    try simp only [minF_f] at h
    try dsimp only at h
    refine ⟨fun h2 => ?_, fun h2 => ?_⟩
    · replace h2 := of_decide_eq_true h2
      try simp only [nc] at h2
      try simp only [minF_t] at h2
      try simp only [minF_f] at h2
      try dsimp only at h2
      refine hK.pure rfl (Mem.le_refl _) ?_
      simp only [cmpI, if_neg h, if_pos h2]
      rfl
    · replace h2 := of_decide_eq_false h2
      try simp only [nc] at h2
      try simp only [minF_t] at h2
      try simp only [minF_f] at h2
      try dsimp only at h2
      refine hK.pure rfl (Mem.le_refl _) ?_
      simp only [cmpI, if_neg h, if_neg h2]
      rfl

theorem compare_i64 (a b : Int) (M : Mem) : Pure1 120 #[EV a, EV b] M (EV (cmpI a b)) := by
  refine ok120.pure 200 [EA a, EA b] rfl (by kernel_rfl) fun c K hK => ?_
  conv => cbv
  refine CallS.pure (isnan_i64 a M) rfl .ff rfl rfl ?_
  conv => cbv
  refine CallS.pure (isnan_i64 b M) rfl .ff rfl rfl ?_
  conv => cbv
  refine ⟨fun h => ?_, fun h => ?_⟩
  · replace h := of_decide_eq_true h
    try simp only [nc] at h
    try simp only [minF_t] at h
    try simp only [minF_f] at h
    try dsimp only at h
    refine hK.pure rfl (Mem.le_refl _) ?_
    simp only [cmpI, if_pos h]
    rfl
  · replace h := of_decide_eq_false h
    try simp only [nc] at h
    try simp only [minF_t] at h
    try simp only [minF_f] at h
    try dsimp only at h
    refine ⟨fun h2 => ?_, fun h2 => ?_⟩
    · replace h2 := of_decide_eq_true h2
      try simp only [nc] at h2
      try simp only [minF_t] at h2
      try simp only [minF_f] at h2
      try dsimp only at h2
      refine hK.pure rfl (Mem.le_refl _) ?_
      simp only [cmpI, if_neg h, if_pos h2]
      rfl
    · replace h2 := of_decide_eq_false h2
      try simp only [nc] at h2
      try simp only [minF_t] at h2
      try simp only [minF_f] at h2
      try dsimp only at h2
      refine hK.pure rfl (Mem.le_refl _) ?_
      simp only [cmpI, if_neg h, if_neg h2]
      rfl

theorem R.nat {a : R} (h : a.ok = true) : ∃ (n : Int) (B : Nat), a = ⟨n, (B : Int)⟩ ∧ 0 < B ∧ B ≤ 1000000000000000000 ∧ n.natAbs ≤ 1000000000000000000 ∧ Nat.gcd n.natAbs B = 1 := by
  obtain ⟨h1, h2, h3, h4⟩ := R.ok_iff.1 h
  simp only [lim] at h2 h3
  refine ⟨a.n, a.d.natAbs, ?_, by omega, h2, h3, h4⟩
  cases a
  simp only [R.mk.injEq, true_and]
  simp only at h1
  omega

theorem mul_bad {a b : R} (h : ¬ ((a.ok && b.ok) = true)) : mulR a b = (R.zero, 8) := by simp only [mulR, if_neg h]
theorem add_bad {a b : R} (h : ¬ ((a.ok && b.ok) = true)) : addR a b = (R.zero, 8) := by simp only [addR, if_neg h]
theorem both_ok {a b : R} (h : (a.ok && b.ok) = true) : a.ok = true ∧ b.ok = true := by simpa using h

theorem mkR_zero (x y : Bool) (d : Nat) : mkR x 0 d = mkR y 0 d := by cases x <;> cases y <;> simp [mkR]
theorem mul_neg_iff {n m : Int} (hn : n ≠ 0) (hm : m ≠ 0) : decide (n * m < 0) = (decide (n < 0) != decide (m < 0)) := by
  rcases Int.lt_or_gt_of_ne hn with h | h <;> rcases Int.lt_or_gt_of_ne hm with k | k
  · have := Int.mul_pos_of_neg_of_neg h k
    rw [decide_eq_false (by omega), decide_eq_true h, decide_eq_true k]; rfl
  · have := Int.mul_neg_of_neg_of_pos h k
    rw [decide_eq_true this, decide_eq_true h, decide_eq_false (by omega)]; rfl
  · have := Int.mul_neg_of_pos_of_neg h k
    rw [decide_eq_true this, decide_eq_false (show ¬ n < 0 by omega), decide_eq_true k]; rfl
  · have := Int.mul_pos h k
    rw [decide_eq_false (by omega), decide_eq_false (show ¬ n < 0 by omega), decide_eq_false (show ¬ m < 0 by omega)]; rfl

theorem mul_spec (a b : R) (ha : a.Wf) (hb : b.Wf) (M : Mem) : Pure1 77 #[RV a, RV b] M (RE (mulR a b)) := by
  by_cases hok : (a.ok && b.ok) = true
  · obtain ⟨ha', hb'⟩ := both_ok hok
    have hmul : mulR a b = norm (a.n * b.n) (a.d.natAbs * b.d.natAbs) := by simp only [mulR, if_pos hok]
    obtain ⟨n, B, rfl, b1, b2, b3, b4⟩ := R.nat ha'
    obtain ⟨m, D, rfl, d1, d2, d3, d4⟩ := R.nat hb'
    rw [hmul]
    simp only [Int.natAbs_natCast]
    obtain ⟨g, hg⟩ : ∃ g, g = Nat.gcd n.natAbs D := ⟨_, rfl⟩
    obtain ⟨h, hh⟩ : ∃ h, h = Nat.gcd m.natAbs B := ⟨_, rfl⟩
    have hgp : 0 < g := by rw [hg]; exact Nat.gcd_pos_of_pos_right _ d1
    have hhp : 0 < h := by rw [hh]; exact Nat.gcd_pos_of_pos_right _ b1
    rw [mul_eq b1 d1 b4 d4 hg hh]
    have q1 : n.natAbs / g ≤ 1000000000000000000 := Nat.le_trans (Nat.div_le_self _ _) b3
    have q2 : m.natAbs / h ≤ 1000000000000000000 := Nat.le_trans (Nat.div_le_self _ _) d3
    have q3 : B / h ≤ 1000000000000000000 := Nat.le_trans (Nat.div_le_self _ _) b2
    have q4 : D / g ≤ 1000000000000000000 := Nat.le_trans (Nat.div_le_self _ _) d2
    refine ok77.pure 200 [.agg [EA n, EA B], .agg [EA m, EA D]] rfl (by kernel_rfl) fun c K hK => ?_
    conv => cbv
    refine CallS.pure (check2_spec _ _ ha hb M) rfl (EA 0) rfl (by rw [if_pos hok]; rfl) ?_
    conv => cbv
    refine ⟨fun h => (by cases h), fun _ => ?_⟩
    refine .u64 (B : Int) rfl (by omega) (by omega) ?_
    conv => cbv
    refine .u64 (D : Int) rfl (by omega) (by omega) ?_
    conv => cbv
    refine CallS.pure (size_spec n ha.n M) rfl (UA n.natAbs) rfl rfl ?_
    conv => cbv
    refine CallS.pure (size_spec m hb.n M) rfl (UA m.natAbs) rfl rfl ?_
    conv => cbv
    refine CallS.pure (gcd_spec n.natAbs D M) rfl (UA g) rfl (by rw [hg]; rfl) ?_
    conv => cbv
    refine CallS.pure (gcd_spec m.natAbs B M) rfl (UA h) rfl (by rw [hh]; rfl) ?_
    conv => cbv
    refine .quoN n.natAbs g rfl rfl hgp (by omega) ?_
    conv => cbv
    refine .quoN m.natAbs h rfl rfl hhp (by omega) ?_
    conv => cbv
    refine CallS.pure (mul64_spec (n.natAbs / g) (m.natAbs / h) (by omega) (by omega) M) rfl (.tup [UA _, UA _]) rfl rfl ?_
    conv => cbv
    refine .quoN B h rfl rfl hhp (by omega) ?_
    conv => cbv
    refine .quoN D g rfl rfl hgp (by omega) ?_
    conv => cbv
    refine CallS.pure (mul64_spec (B / h) (D / g) (by omega) (by omega) M) rfl (.tup [UA _, UA _]) rfl rfl ?_
    conv => cbv
    have p1 := Nat.mul_le_mul q1 q2
    have p2 := Nat.mul_le_mul q3 q4
    generalize hP : n.natAbs / g * (m.natAbs / h) = P at *
    generalize hQ : B / h * (D / g) = Q at *
    refine .nat (P / 18446744073709551616 + Q / 18446744073709551616) (by simp) (by omega) ?_
    conv => cbv
    refine ⟨fun e => ?_, fun e => ?_⟩
    · replace e := of_decide_eq_true e
      try simp only [nc] at e
      try simp only [minF_t] at e
      try simp only [minF_f] at e
      try dsimp only at e
      refine hK.pure rfl (Mem.le_refl _) ?_
      rw [mkR, if_neg (by simp only [lim]; omega)]
      rfl
    · replace e := of_decide_eq_false e
      try simp only [nc] at e
      try simp only [minF_t] at e
      try simp only [minF_f] at e
      try dsimp only at e
      have eP : P % 18446744073709551616 = P := Nat.mod_eq_of_lt (by omega)
      have eQ : Q % 18446744073709551616 = Q := Nat.mod_eq_of_lt (by omega)
      refine ⟨fun e2 => ?_, fun e2 => ?_⟩
      · replace e2 := of_decide_eq_true e2
        try simp only [nc] at e2
        try simp only [minF_t] at e2
        try simp only [minF_f] at e2
        try dsimp only at e2
        have hnz : n ≠ 0 := fun e => by subst e; simp at hP; omega
        have hmz : m ≠ 0 := fun e => by subst e; simp at hP; omega
        refine CallS.pure (signed_spec (decide (n < 0) != decide (m < 0)) P Q (by omega) (by omega) M) (by simp [AV.vals, AV.denL, AV.den, eP, eQ]) (REA _) rfl rfl ?_
        conv => cbv
        refine hK.pure rfl (Mem.le_refl _) ?_
        rw [mul_neg_iff hnz hmz]
        rfl
      · replace e2 := of_decide_eq_false e2
        try simp only [nc] at e2
        try simp only [minF_t] at e2
        try simp only [minF_f] at e2
        try dsimp only at e2
        have hP0 : P = 0 := by omega
        subst hP0
        refine CallS.pure (signed_spec false 0 Q (by omega) (by omega) M) (by simp [AV.vals, AV.denL, AV.den, eQ]) (REA _) rfl rfl ?_
        conv => cbv
        refine hK.pure rfl (Mem.le_refl _) ?_
        rw [mkR_zero (decide (n * m < 0)) false]
        rfl
  · rw [mul_bad hok]
    refine ok77.pure 200 [RA a, RA b] rfl (by kernel_rfl) fun c K hK => ?_
    conv => cbv
    refine CallS.pure (check2_spec a b ha hb M) rfl (EA 8) rfl (by rw [if_neg hok]; rfl) ?_
    conv => cbv
    refine ⟨fun _ => ?_, fun h => by cases h⟩
    refine hK.pure rfl (Mem.le_refl _) ?_
    rfl

theorem cmp_specA (a b : R) (ha : a.Wf) (hb : b.Wf) (hok : ¬ ((a.ok && b.ok) = true)) (M : Mem) : Pure1 102 #[RV a, RV b] M (.tuple #[EV 0, EV 8]) := by
  refine ok102.pure 200 [RA a, RA b] rfl (by kernel_rfl) fun c K hK => ?_
  conv => cbv
  refine CallS.pure (check2_spec a b ha hb M) rfl (EA 8) rfl (by rw [if_neg hok]; rfl) ?_
  conv => cbv
  refine ⟨fun _ => ?_, fun h => by cases h⟩
  refine hK.pure rfl (Mem.le_refl _) ?_
  rfl

def cmpR (a b : R) : Int := if a.n * b.d < b.n * a.d then -1 else if b.n * a.d < a.n * b.d then 1 else 0

theorem or2_spec (a b : Int) (p : Nat) (o k : Nat) (M : Mem) (hc : CellsAt M p o [EV a, EV b]) : Pure1 121 #[.slice (some ⟨p, o, none⟩) 2 k] M (EV (if a = 0 then b else a)) := by
  refine ok121.pure 200 [.slice (fun _ => some ⟨p, o, none⟩) (fun _ => 2) (fun _ => k)] rfl (by kernel_rfl) fun c K hK => ?_
  conv => cbv
  refine OKS.unloop ?_
  refine ok121.go 100 (by kernel_rfl) ?_
  conv => cbv
  refine ⟨fun h => ?_, fun h => by cases h⟩
  refine .mk p o 0 rfl rfl (by decide) ?_
  conv => cbv
  refine .mk (EA a) rfl hc.1 ?_
  conv => cbv
  refine ⟨fun h0 => ?_, fun h0 => ?_⟩
  · replace h0 := of_decide_eq_true h0
    try simp only [nc] at h0
    try simp only [minF_t] at h0
    try simp only [minF_f] at h0
    try dsimp only at h0
    refine hK.pure rfl (Mem.le_refl _) ?_
    simp only [if_neg h0]
    rfl
  · replace h0 := of_decide_eq_false h0
    try simp only [nc] at h0
    try simp only [minF_t] at h0
    try simp only [minF_f] at h0
    try dsimp only at h0
    have h0 : a = 0 := by omega
    refine OKS.inLoop ?_
    refine ok121.go 100 (by kernel_rfl) ?_
    conv => cbv
    refine ⟨fun h => ?_, fun h => by cases h⟩
    refine .mk p o 1 rfl rfl (by decide) ?_
    conv => cbv
    refine .mk (EA b) rfl hc.2.1 ?_
    conv => cbv
    refine ⟨fun h1 => ?_, fun h1 => ?_⟩
    · replace h1 := of_decide_eq_true h1
      try simp only [nc] at h1
      try simp only [minF_t] at h1
      try simp only [minF_f] at h1
      try dsimp only at h1
      refine hK.pure rfl (Mem.le_refl _) ?_
      simp only [if_pos h0]
      rfl
    · replace h1 := of_decide_eq_false h1
      try simp only [nc] at h1
      try simp only [minF_t] at h1
      try simp only [minF_f] at h1
      try dsimp only at h1
      have h1 : b = 0 := by omega
      refine OKS.inLoop ?_
      refine ok121.go 100 (by kernel_rfl) ?_
      conv => cbv
      refine ⟨fun h => (by cases h), fun h => ?_⟩
      refine hK.pure rfl (Mem.le_refl _) ?_
      simp only [if_pos h0, h1]
      rfl

theorem cmp_words (P Q : Nat) : (if cmpI ((P / 18446744073709551616 : Nat) : Int) ((Q / 18446744073709551616 : Nat) : Int) = 0 then cmpI ((P % 18446744073709551616 : Nat) : Int) ((Q % 18446744073709551616 : Nat) : Int) else cmpI ((P / 18446744073709551616 : Nat) : Int) ((Q / 18446744073709551616 : Nat) : Int)) = cmpI P Q := by
  unfold cmpI
  repeat' split
  all_goals omega

theorem cmp_neg {x y : Int} {P Q : Nat} (hx : x < 0) (hy : y < 0) (hP : P = x.natAbs) (hQ : Q = y.natAbs) : -cmpI P Q = cmpI x y := by
  unfold cmpI
  repeat' split
  all_goals omega

theorem cmp_pos {x y : Int} {P Q : Nat} (hx : 0 ≤ x) (hy : 0 ≤ y) (hP : P = x.natAbs) (hQ : Q = y.natAbs) : cmpI P Q = cmpI x y := by
  rw [show (P : Int) = x by omega, show (Q : Int) = y by omega]

theorem cmp_sign {n m B D : Int} (hB : 0 < B) (hD : 0 < D) (h : (decide (n < 0) != decide (m < 0)) = true) : cmpI n m = cmpI (n * D) (m * B) := by
  have key : n < 0 ∧ 0 ≤ m ∨ 0 ≤ n ∧ m < 0 := by
    by_cases h1 : n < 0 <;> by_cases h2 : m < 0 <;> simp [h1, h2] at h <;> omega
  rcases key with ⟨h1, h2⟩ | ⟨h1, h2⟩
  · have := Int.mul_neg_of_neg_of_pos h1 hD
    have := Int.mul_nonneg h2 (Int.le_of_lt hB)
    unfold cmpI
    rw [if_pos (by omega), if_pos (by omega)]
  · have := Int.mul_neg_of_neg_of_pos h2 hB
    have := Int.mul_nonneg h1 (Int.le_of_lt hD)
    unfold cmpI
    rw [if_neg (by omega), if_pos (by omega), if_neg (by omega), if_pos (by omega)]

theorem cmp_spec (a b : R) (hok : (a.ok && b.ok) = true) (M : Mem) : Pure1 102 #[RV a, RV b] M (.tuple #[EV (cmpR a b), EV 0]) := by
  obtain ⟨ha', hb'⟩ := both_ok hok
  have ha := R.Wf.of_ok ha'
  have hb := R.Wf.of_ok hb'
  obtain ⟨n, B, rfl, b1, b2, b3, b4⟩ := R.nat ha'
  obtain ⟨m, D, rfl, d1, d2, d3, d4⟩ := R.nat hb'
  have p1 := Nat.mul_le_mul b3 d2
  have p2 := Nat.mul_le_mul d3 b2
  refine ok102.pure 200 [.agg [EA n, EA B], .agg [EA m, EA D]] rfl (by kernel_rfl) fun c K hK => ?_
  conv => cbv
  refine CallS.pure (check2_spec _ _ ha hb M) rfl (EA 0) rfl (by rw [if_pos hok]; rfl) ?_
  conv => cbv
  refine ⟨fun h => (by cases h), fun _ => ?_⟩
  refine ⟨fun h => ?_, fun h => ?_⟩
  · have h : (decide (n < 0) != decide (m < 0)) = true := h
    refine CallS.pure (compare_i64 n m M) rfl (EA (cmpI n m)) rfl rfl ?_
    conv => cbv
    refine hK.pure rfl (Mem.le_refl _) ?_
    rw [cmp_sign (B := (B : Int)) (D := (D : Int)) (by omega) (by omega) h]
    rfl
  · have h : (decide (n < 0) != decide (m < 0)) = false := h
    refine .u64 (D : Int) rfl (by omega) (by omega) ?_
    conv => cbv
    refine CallS.pure (size_spec n ha.n M) rfl (UA n.natAbs) rfl rfl ?_
    conv => cbv
    refine CallS.pure (mul64_spec n.natAbs D (by omega) (by omega) M) rfl (.tup [UA _, UA _]) rfl rfl ?_
    conv => cbv
    refine .u64 (B : Int) rfl (by omega) (by omega) ?_
    conv => cbv
    refine CallS.pure (size_spec m hb.n M) rfl (UA m.natAbs) rfl rfl ?_
    conv => cbv
    refine CallS.pure (mul64_spec m.natAbs B (by omega) (by omega) M) rfl (.tup [UA _, UA _]) rfl rfl ?_
    conv => cbv
    refine CallS.pure (compare_u64 _ _ M) rfl (EA _) rfl rfl ?_
    conv => cbv
    refine CallS.pure (compare_u64 _ _ M) rfl (EA _) rfl rfl ?_
    conv => cbv
    refine .mk trivial fun b' M' hn hB hM' => ?_
    conv => cbv
    have hrow := CellsAt.new (T := 3) (N := 2) (cs := [EV (cmpI ((n.natAbs * D / 18446744073709551616 : Nat) : Int) ((m.natAbs * B / 18446744073709551616 : Nat) : Int)), EV (cmpI ((n.natAbs * D % 18446744073709551616 : Nat) : Int) ((m.natAbs * B % 18446744073709551616 : Nat) : Int))]) hM'
    refine CallS.pure (or2_spec _ _ b' 0 2 M' hrow) rfl (EA (cmpI ((n.natAbs * D : Nat) : Int) ((m.natAbs * B : Nat) : Int))) rfl (congrArg EV (cmp_words _ _).symm) ?_
    have hP : n.natAbs * D = (n * (D : Int)).natAbs := by rw [Int.natAbs_mul, Int.natAbs_natCast]
    have hQ : m.natAbs * B = (m * (B : Int)).natAbs := by rw [Int.natAbs_mul, Int.natAbs_natCast]
    conv => cbv
    have hle : M.le M' := by rw [hM']; exact Mem.le_set hn
    refine ⟨fun e => ?_, fun e => ?_⟩
    · replace e := of_decide_eq_true e
      try simp only [nc] at e
      try simp only [minF_t] at e
      try simp only [minF_f] at e
      try dsimp only at e
      have hm0 : m < 0 := by
        by_cases k : m < 0
        · exact k
        · rw [decide_eq_true e, decide_eq_false k] at h; cases h
      have k1 : n * (D : Int) < 0 := Int.mul_neg_of_neg_of_pos e (by omega)
      have k2 : m * (B : Int) < 0 := Int.mul_neg_of_neg_of_pos hm0 (by omega)
      have hc := cmp_neg k1 k2 hP hQ
      have hcc : -1 ≤ cmpI ((n.natAbs * D : Nat) : Int) ((m.natAbs * B : Nat) : Int) ∧ cmpI ((n.natAbs * D : Nat) : Int) ((m.natAbs * B : Nat) : Int) ≤ 1 := by
        unfold cmpI
        repeat' split
        all_goals omega
      refine .i64 (cmpI (n * (D : Int)) (m * (B : Int))) (by rw [← hc]; exact Int.zero_sub _) (by omega) (by omega) ?_
      conv => cbv
      exact hK.pure rfl hle rfl
    · replace e := of_decide_eq_false e
      try simp only [nc] at e
      try simp only [minF_t] at e
      try simp only [minF_f] at e
      try dsimp only at e
      have hm0 : ¬ m < 0 := fun k => by rw [decide_eq_false e, decide_eq_true k] at h; cases h
      have k1 : 0 ≤ n * (D : Int) := Int.mul_nonneg (by omega) (by omega)
      have k2 : 0 ≤ m * (B : Int) := Int.mul_nonneg (by omega) (by omega)
      refine hK.pure rfl hle ?_
      exact congrArg (fun x => Value.tuple #[EV x, EV 0]) (cmp_pos k1 k2 hP hQ)

theorem R.neg_wf {n d : Int} (h : (⟨n, d⟩ : R).ok = true) : (⟨-n, d⟩ : R).ok = true := by
  have := R.ok_iff.1 h
  exact R.ok_iff.2 (by simpa using this)

theorem div_spec (a b : R) (ha : a.Wf) (hb : b.Wf) (M : Mem) : Pure1 82 #[RV a, RV b] M (RE (divR a b)) := by
  by_cases hok : (a.ok && b.ok) = true
  · obtain ⟨ha', hb'⟩ := both_ok hok
    obtain ⟨n, B, rfl, b1, b2, b3, b4⟩ := R.nat ha'
    obtain ⟨m, D, rfl, d1, d2, d3, d4⟩ := R.nat hb'
    refine ok82.pure 200 [.agg [EA n, EA B], .agg [EA m, EA D]] rfl (by kernel_rfl) fun c K hK => ?_
    conv => cbv
    refine CallS.pure (check2_spec _ _ ha hb M) rfl (EA 0) rfl (by rw [if_pos hok]; rfl) ?_
    conv => cbv
    refine ⟨fun h => (by cases h), fun _ => ?_⟩
    refine ⟨fun e => ?_, fun e => ?_⟩
    · replace e := of_decide_eq_true e
      try simp only [nc] at e
      try simp only [minF_t] at e
      try simp only [minF_f] at e
      try dsimp only at e
      refine hK.pure rfl (Mem.le_refl _) ?_
      have : divR ⟨n, B⟩ ⟨m, D⟩ = (R.zero, 18) := by rw [divR, if_pos hok, if_pos e]
      rw [this]
      rfl
    · replace e := of_decide_eq_false e
      try simp only [nc] at e
      try simp only [minF_t] at e
      try simp only [minF_f] at e
      try dsimp only at e
      refine ⟨fun e2 => ?_, fun e2 => ?_⟩
      · replace e2 := of_decide_eq_true e2
        try simp only [nc] at e2
        try simp only [minF_t] at e2
        try simp only [minF_f] at e2
        try dsimp only at e2
        refine .i64 (-(D : Int)) (by show 0 - (D : Int) = _; omega) (by omega) (by omega) ?_
        conv => cbv
        refine .i64 (-m) (by show 0 - m = _; omega) (by omega) (by omega) ?_
        conv => cbv
        have hno : (⟨-(D : Int), -m⟩ : R).ok = true := R.ok_iff.2 ⟨by simp only; omega, by simp only [lim]; omega, by simp only [lim]; omega, by simp only [Int.natAbs_neg, Int.natAbs_natCast]; rw [Nat.gcd_comm]; exact d4⟩
        refine CallS.pure (mul_spec _ ⟨-(D : Int), -m⟩ ha (.of_ok hno) M) rfl (REA _) rfl rfl ?_
        conv => cbv
        refine hK.pure rfl (Mem.le_refl _) ?_
        have : mulR ⟨n, B⟩ ⟨-(D : Int), -m⟩ = divR ⟨n, B⟩ ⟨m, D⟩ := by
          simp only [mulR, divR, ha', hb', hno, Bool.and_self, if_true, if_neg e, if_pos e2, Int.natAbs_neg, Int.mul_neg]
        rw [← this]
        rfl
      · replace e2 := of_decide_eq_false e2
        try simp only [nc] at e2
        try simp only [minF_t] at e2
        try simp only [minF_f] at e2
        try dsimp only at e2
        have hno : (⟨(D : Int), m⟩ : R).ok = true := R.ok_iff.2 ⟨by simp only; omega, by simp only [lim]; omega, by simp only [lim]; omega, by simp only [Int.natAbs_natCast]; rw [Nat.gcd_comm]; exact d4⟩
        refine CallS.pure (mul_spec _ ⟨(D : Int), m⟩ ha (.of_ok hno) M) rfl (REA _) rfl rfl ?_
        conv => cbv
        refine hK.pure rfl (Mem.le_refl _) ?_
        have : mulR ⟨n, B⟩ ⟨(D : Int), m⟩ = divR ⟨n, B⟩ ⟨m, D⟩ := by
          simp only [mulR, divR, ha', hb', hno, Bool.and_self, if_true, if_neg e, if_neg e2]
        rw [← this]
        rfl
  · refine ok82.pure 200 [RA a, RA b] rfl (by kernel_rfl) fun c K hK => ?_
    conv => cbv
    refine CallS.pure (check2_spec a b ha hb M) rfl (EA 8) rfl (by rw [if_neg hok]; rfl) ?_
    conv => cbv
    refine ⟨fun _ => ?_, fun h => by cases h⟩
    refine hK.pure rfl (Mem.le_refl _) ?_
    simp only [divR, if_neg hok]
    rfl

theorem sub_spec (a b : R) (ha : a.Wf) (hb : b.Wf) (M : Mem) (hadd : ∀ b' : R, b'.Wf → Pure1 78 #[RV a, RV b'] M (RE (addR a b'))) : Pure1 76 #[RV a, RV b] M (RE (subR a b)) := by
  by_cases hok : (a.ok && b.ok) = true
  · obtain ⟨ha', hb'⟩ := both_ok hok
    obtain ⟨n, B, rfl, b1, b2, b3, b4⟩ := R.nat ha'
    obtain ⟨m, D, rfl, d1, d2, d3, d4⟩ := R.nat hb'
    have hno := R.neg_wf hb'
    refine ok76.pure 200 [.agg [EA n, EA B], .agg [EA m, EA D]] rfl (by kernel_rfl) fun c K hK => ?_
    conv => cbv
    refine CallS.pure (check2_spec _ _ ha hb M) rfl (EA 0) rfl (by rw [if_pos hok]; rfl) ?_
    conv => cbv
    refine ⟨fun h => (by cases h), fun _ => ?_⟩
    refine .i64 (-m) (by show 0 - m = _; omega) (by omega) (by omega) ?_
    conv => cbv
    refine CallS.pure (hadd ⟨-m, D⟩ (.of_ok hno)) rfl (REA _) rfl rfl ?_
    conv => cbv
    refine hK.pure rfl (Mem.le_refl _) ?_
    have : addR ⟨n, B⟩ ⟨-m, D⟩ = subR ⟨n, B⟩ ⟨m, D⟩ := by
      simp only [addR, subR, ha', hb', hno, Bool.and_self, if_true, Int.neg_mul, Int.sub_eq_add_neg]
    rw [← this]
    rfl
  · refine ok76.pure 200 [RA a, RA b] rfl (by kernel_rfl) fun c K hK => ?_
    conv => cbv
    refine CallS.pure (check2_spec a b ha hb M) rfl (EA 8) rfl (by rw [if_neg hok]; rfl) ?_
    conv => cbv
    refine ⟨fun _ => ?_, fun h => by cases h⟩
    refine hK.pure rfl (Mem.le_refl _) ?_
    simp only [subR, if_neg hok]
    rfl

end Go.SX
