/- Reference of ratios: wide numbers. -/
import Derived.Test.YtojdihbanakhgaaAgC
import Derived.Test.YtojdihbanakhgaaSxFn3
import Derived.Test.YtojdihbanakhgaaSxFn4
import Derived.Test.YtojdihbanakhgaaSxFn5
namespace Go.SX
open Go.Proofs.Try Go.Proofs

theorem abs01_spec (n : Int) (h : I64 n) (M : Mem) : Pure1 97 #[EV n] M (UV n.natAbs) := by
  obtain ⟨h1, h2⟩ := h
  refine ok97.pure 100 [EA n] rfl (by kernel_rfl) fun c K hK => ?_
  conv => cbv
  refine ⟨fun e => ?_, fun e => ?_⟩
  · replace e := of_decide_eq_true e
    try simp only [nc] at e
    try simp only [minF_t] at e
    try simp only [minF_f] at e
    try dsimp only at e
    refine .i64 (n + 1) rfl (by omega) (by omega) ?_
    conv => cbv
    refine .i64 (-(n + 1)) (by show 0 - (n + 1) = _; omega) (by omega) (by omega) ?_
    conv => cbv
    refine .u64 (-(n + 1)) rfl (by omega) (by omega) ?_
    conv => cbv
    refine .u64 (n.natAbs : Int) (by show -(n + 1) + 1 = _; omega) (by omega) (by omega) ?_
    conv => cbv
    refine hK.pure rfl (Mem.le_refl _) ?_
    rfl
  · replace e := of_decide_eq_false e
    try simp only [nc] at e
    try simp only [minF_t] at e
    try simp only [minF_f] at e
    try dsimp only at e
    refine .u64 (n.natAbs : Int) (by show n = _; omega) (by omega) (by omega) ?_
    conv => cbv
    refine hK.pure rfl (Mem.le_refl _) ?_
    rfl

theorem gcd01_spec (a b : Nat) (M : Mem) : Pure1 98 #[UV a, UV b] M (UV (Nat.gcd a b)) := by
  refine ok98.pure 100 [UA a, UA b] rfl (by kernel_rfl) fun c K hK => ?_
  conv => cbv
  refine OKS.loopH (fun (p : Nat × Nat) => Nat.gcd p.1 p.2 = Nat.gcd a b) (fun p => [(0, UA p.1), (1, UA p.2)]) (fun _ => []) (fun _ => M) (fun p => p.2) (a, b) rfl ?_ ?_
  · refine ⟨by cbv; simp, by cbv, by cbv, Mem.le_refl _⟩
  · intro p hp ih
    refine ok98.go 100 (by kernel_rfl) ?_
    conv => cbv
    refine ⟨fun h => ?_, fun h => ?_⟩
    · simp at h
      refine .rem ((p.1 % p.2 : Nat) : Int) rfl (by simp; omega) (by simp [Int.tmod_eq_emod_of_nonneg]) ?_
      conv => cbv
      refine ih (p.2, p.1 % p.2) ?_ (Nat.mod_lt _ (by omega)) _ ?_
      · simp only; rw [Nat.gcd_comm, ← Nat.gcd_rec, Nat.gcd_comm]; exact hp
      · refine ⟨by cbv; simp, by cbv, by cbv, Mem.le_refl _⟩
    · simp at h
      refine hK.pure rfl (Mem.le_refl _) ?_
      simp [AV.val, AV.den, ← hp, h]

theorem check01_spec (a : R) (ha : a.Wf) (M : Mem) : Pure1 116 #[RV a] M (EV (okE a)) := by
  obtain ⟨⟨h1, h2⟩, ⟨h3, h4⟩⟩ := ha
  refine ok116.pure 200 [RA a] rfl (by kernel_rfl) fun c K hK => ?_
  conv => cbv
  refine ⟨fun t1 => ?_, fun t1 => ?_⟩
  · replace t1 := of_decide_eq_true t1
    try simp only [nc] at t1
    try simp only [minF_t] at t1
    try simp only [minF_f] at t1
    try dsimp only at t1
    refine hK.pure rfl (Mem.le_refl _) ?_
    refine congrArg EV (okE_f fun e => ?_)
    have := R.ok_iff.1 e
    omega
  · replace t1 := of_decide_eq_false t1
    try simp only [nc] at t1
    try simp only [minF_t] at t1
    try simp only [minF_f] at t1
    try dsimp only at t1
    refine ⟨fun t2 => ?_, fun t2 => ?_⟩
    · replace t2 := of_decide_eq_true t2
      try simp only [nc] at t2
      try simp only [minF_t] at t2
      try simp only [minF_f] at t2
      try dsimp only at t2
      refine hK.pure rfl (Mem.le_refl _) ?_
      refine congrArg EV (okE_f fun e => ?_)
      have := R.ok_iff.1 e
      simp only [lim] at this
      omega
    · replace t2 := of_decide_eq_false t2
      try simp only [nc] at t2
      try simp only [minF_t] at t2
      try simp only [minF_f] at t2
      try dsimp only at t2
      refine ⟨fun t3 => ?_, fun t3 => ?_⟩
      · replace t3 := of_decide_eq_true t3
        try simp only [nc] at t3
        try simp only [minF_t] at t3
        try simp only [minF_f] at t3
        try dsimp only at t3
        refine hK.pure rfl (Mem.le_refl _) ?_
        refine congrArg EV (okE_f fun e => ?_)
        have := R.ok_iff.1 e
        simp only [lim] at this
        omega
      · replace t3 := of_decide_eq_false t3
        try simp only [nc] at t3
        try simp only [minF_t] at t3
        try simp only [minF_f] at t3
        try dsimp only at t3
        refine ⟨fun t4 => ?_, fun t4 => ?_⟩
        · replace t4 := of_decide_eq_true t4
          try simp only [nc] at t4
          try simp only [minF_t] at t4
          try simp only [minF_f] at t4
          try dsimp only at t4
          refine hK.pure rfl (Mem.le_refl _) ?_
          refine congrArg EV (okE_f fun e => ?_)
          have := R.ok_iff.1 e
          simp only [lim] at this
          omega
        · replace t4 := of_decide_eq_false t4
          try simp only [nc] at t4
          try simp only [minF_t] at t4
          try simp only [minF_f] at t4
          try dsimp only at t4
          refine .u64 (a.d.natAbs : Int) (by show a.d = _; omega) (by omega) (by omega) ?_
          conv => cbv
          refine CallS.pure (abs01_spec a.n ⟨h1, h2⟩ M) rfl (UA a.n.natAbs) rfl rfl ?_
          conv => cbv
          refine CallS.pure (gcd01_spec a.n.natAbs a.d.natAbs M) rfl (UA (Nat.gcd a.n.natAbs a.d.natAbs)) rfl rfl ?_
          conv => cbv
          refine ⟨fun t5 => ?_, fun t5 => ?_⟩
          · replace t5 := of_decide_eq_true t5
            try simp only [nc] at t5
            try simp only [minF_t] at t5
            try simp only [minF_f] at t5
            try dsimp only at t5
            refine hK.pure rfl (Mem.le_refl _) ?_
            refine congrArg EV (okE_f fun e => ?_)
            have := R.ok_iff.1 e
            omega
          · replace t5 := of_decide_eq_false t5
            try simp only [nc] at t5
            try simp only [minF_t] at t5
            try simp only [minF_f] at t5
            try dsimp only at t5
            refine hK.pure rfl (Mem.le_refl _) ?_
            refine congrArg EV (okE_t (R.ok_iff.2 ?_))
            simp only [lim]
            omega

theorem both01_spec (a b : R) (ha : a.Wf) (hb : b.Wf) (M : Mem) : Pure1 129 #[RV a, RV b] M (EV (if a.ok && b.ok then 0 else 8)) := by
  refine ok129.pure 200 [RA a, RA b] rfl (by kernel_rfl) fun c K hK => ?_
  conv => cbv
  refine CallS.pure (check01_spec a ha M) rfl (EA (okE a)) rfl rfl ?_
  conv => cbv
  refine ⟨fun t1 => ?_, fun t1 => ?_⟩
  · replace t1 := of_decide_eq_true t1
    try simp only [nc] at t1
    try simp only [minF_t] at t1
    try simp only [minF_f] at t1
    try dsimp only at t1
    refine CallS.pure (check01_spec a ha M) rfl (EA (okE a)) rfl rfl ?_
    conv => cbv
    refine hK.pure rfl (Mem.le_refl _) ?_
    unfold okE at t1 ⊢
    cases h : a.ok
    · rfl
    · rw [h] at t1; exact absurd rfl t1
  · replace t1 := of_decide_eq_false t1
    try simp only [nc] at t1
    try simp only [minF_t] at t1
    try simp only [minF_f] at t1
    try dsimp only at t1
    refine CallS.pure (check01_spec b hb M) rfl (EA (okE b)) rfl rfl ?_
    conv => cbv
    refine hK.pure rfl (Mem.le_refl _) ?_
    unfold okE at t1 ⊢
    cases h : a.ok
    · rw [h] at t1; exact absurd (by decide) t1
    · cases b.ok <;> rfl

/-! ### Numbers of 128 bits -/

abbrev WV (n : Nat) : Value := .agg #[UV (n / 18446744073709551616), UV (n % 18446744073709551616)]
abbrev WA (n : Nat) : AV := .agg [UA (n / 18446744073709551616), UA (n % 18446744073709551616)]
abbrev W128 : Nat := 340282366920938463463374607431768211456

theorem wless_spec (a b : Nat) (M : Mem) : Pure1 126 #[WV a, WV b] M (.bool (decide (a < b))) := by
  refine ok126.pure 200 [WA a, WA b] rfl (by kernel_rfl) fun c K hK => ?_
  conv => cbv
  refine ⟨fun t1 => ?_, fun t1 => ?_⟩
  · replace t1 := of_decide_eq_true t1
    try simp only [nc] at t1
    try simp only [minF_t] at t1
    try simp only [minF_f] at t1
    try dsimp only at t1
    refine hK.pure rfl (Mem.le_refl _) ?_
    rw [decide_eq_true (by omega)]
    rfl
  · replace t1 := of_decide_eq_false t1
    try simp only [nc] at t1
    try simp only [minF_t] at t1
    try simp only [minF_f] at t1
    try dsimp only at t1
    refine ⟨fun t2 => ?_, fun t2 => ?_⟩
    · replace t2 := of_decide_eq_true t2
      try simp only [nc] at t2
      try simp only [minF_t] at t2
      try simp only [minF_f] at t2
      try dsimp only at t2
      refine hK.pure rfl (Mem.le_refl _) ?_
      exact congrArg Value.bool (decide_eq_decide.2 (by show ((a % 18446744073709551616 : Nat) : Int) < ((b % 18446744073709551616 : Nat) : Int) ↔ a < b; omega))
    · replace t2 := of_decide_eq_false t2
      try simp only [nc] at t2
      try simp only [minF_t] at t2
      try simp only [minF_f] at t2
      try dsimp only at t2
      refine hK.pure rfl (Mem.le_refl _) ?_
      rw [decide_eq_false (by omega)]
      rfl

theorem plus_spec (a b : Nat) (h : a + b < W128) (M : Mem) : Pure1 130 #[WV a, WV b] M (WV (a + b)) := by
  refine ok130.pure 200 [WA a, WA b] rfl (by kernel_rfl) fun c K hK => ?_
  conv => cbv
  refine .natm ((a + b) % 18446744073709551616) ((a % 18446744073709551616 : Nat) + (b % 18446744073709551616 : Nat) : Int) rfl (by omega) ?_
  conv => cbv
  refine .natm (a / 18446744073709551616 + b / 18446744073709551616) ((a / 18446744073709551616 : Nat) + (b / 18446744073709551616 : Nat) : Int) rfl (by simp only [W128] at h; omega) ?_
  conv => cbv
  refine ⟨fun t1 => ?_, fun t1 => ?_⟩
  · replace t1 := of_decide_eq_true t1
    try simp only [nc] at t1
    try simp only [minF_t] at t1
    try simp only [minF_f] at t1
    try dsimp only at t1
    refine .natm ((a + b) / 18446744073709551616) (((a / 18446744073709551616 + b / 18446744073709551616 : Nat) : Int) + 1) rfl (by simp only [W128] at h; omega) ?_
    conv => cbv
    refine hK.pure rfl (Mem.le_refl _) ?_
    rfl
  · replace t1 := of_decide_eq_false t1
    try simp only [nc] at t1
    try simp only [minF_t] at t1
    try simp only [minF_f] at t1
    try dsimp only at t1
    have e : (a + b) / 18446744073709551616 = a / 18446744073709551616 + b / 18446744073709551616 := by omega
    refine hK.pure rfl (Mem.le_refl _) ?_
    rw [← e]
    rfl

theorem minus_spec (a b : Nat) (ha : a < W128) (hb : b < W128) (M : Mem) : Pure1 131 #[WV a, WV b] M (WV ((a + W128 - b) % W128)) := by
  simp only [W128] at *
  refine ok131.pure 200 [WA a, WA b] rfl (by kernel_rfl) fun c K hK => ?_
  conv => cbv
  refine .natm ((a / 18446744073709551616 + 18446744073709551616 - b / 18446744073709551616) % 18446744073709551616) ((a / 18446744073709551616 : Nat) - (b / 18446744073709551616 : Nat) : Int) rfl (by omega) ?_
  conv => cbv
  refine ⟨fun t1 => ?_, fun t1 => ?_⟩
  · replace t1 := of_decide_eq_true t1
    try simp only [nc] at t1
    try simp only [minF_t] at t1
    try simp only [minF_f] at t1
    try dsimp only at t1
    refine .natm ((a + 340282366920938463463374607431768211456 - b) % 340282366920938463463374607431768211456 / 18446744073709551616) ((((a / 18446744073709551616 + 18446744073709551616 - b / 18446744073709551616) % 18446744073709551616 : Nat) : Int) - 1) rfl (by omega) ?_
    conv => cbv
    refine .natm ((a + 340282366920938463463374607431768211456 - b) % 340282366920938463463374607431768211456 % 18446744073709551616) ((a % 18446744073709551616 : Nat) - (b % 18446744073709551616 : Nat) : Int) rfl (by omega) ?_
    conv => cbv
    refine hK.pure rfl (Mem.le_refl _) ?_
    rfl
  · replace t1 := of_decide_eq_false t1
    try simp only [nc] at t1
    try simp only [minF_t] at t1
    try simp only [minF_f] at t1
    try dsimp only at t1
    refine .natm ((a + 340282366920938463463374607431768211456 - b) % 340282366920938463463374607431768211456 % 18446744073709551616) ((a % 18446744073709551616 : Nat) - (b % 18446744073709551616 : Nat) : Int) rfl (by omega) ?_
    conv => cbv
    have e : (a + 340282366920938463463374607431768211456 - b) % 340282366920938463463374607431768211456 / 18446744073709551616 = (a / 18446744073709551616 + 18446744073709551616 - b / 18446744073709551616) % 18446744073709551616 := by omega
    refine hK.pure rfl (Mem.le_refl _) ?_
    rw [← e]
    rfl

theorem made01_spec (neg : Bool) (num den : Nat) (M : Mem) : Pure1 99 #[.bool neg, WV num, WV den] M (RE (mkR neg num den)) := by
  refine ok99.pure 200 [.sb fun _ => neg, WA num, WA den] rfl (by kernel_rfl) fun c K hK => ?_
  have bad : ¬ (num ≤ lim ∧ den ≤ lim) → mkR neg num den = (R.zero, 16) := fun h => by rw [mkR, if_neg h]
  simp only [lim] at bad
  conv => cbv
  refine ⟨fun t1 => ?_, fun t1 => ?_⟩
  · replace t1 := of_decide_eq_true t1
    try simp only [nc] at t1
    try simp only [minF_t] at t1
    try simp only [minF_f] at t1
    try dsimp only at t1
    refine hK.pure rfl (Mem.le_refl _) ?_
    rw [bad (by omega)]
    rfl
  · replace t1 := of_decide_eq_false t1
    try simp only [nc] at t1
    try simp only [minF_t] at t1
    try simp only [minF_f] at t1
    try dsimp only at t1
    refine ⟨fun t2 => ?_, fun t2 => ?_⟩
    · replace t2 := of_decide_eq_true t2
      try simp only [nc] at t2
      try simp only [minF_t] at t2
      try simp only [minF_f] at t2
      try dsimp only at t2
      refine hK.pure rfl (Mem.le_refl _) ?_
      rw [bad (by omega)]
      rfl
    · replace t2 := of_decide_eq_false t2
      try simp only [nc] at t2
      try simp only [minF_t] at t2
      try simp only [minF_f] at t2
      try dsimp only at t2
      refine ⟨fun t3 => ?_, fun t3 => ?_⟩
      · replace t3 := of_decide_eq_true t3
        try simp only [nc] at t3
        try simp only [minF_t] at t3
        try simp only [minF_f] at t3
        try dsimp only at t3
        refine hK.pure rfl (Mem.le_refl _) ?_
        rw [bad (by omega)]
        rfl
      · replace t3 := of_decide_eq_false t3
        try simp only [nc] at t3
        try simp only [minF_t] at t3
        try simp only [minF_f] at t3
        try dsimp only at t3
        refine ⟨fun t4 => ?_, fun t4 => ?_⟩
        · replace t4 := of_decide_eq_true t4
          try simp only [nc] at t4
          try simp only [minF_t] at t4
          try simp only [minF_f] at t4
          try dsimp only at t4
          refine hK.pure rfl (Mem.le_refl _) ?_
          rw [bad (by omega)]
          rfl
        · replace t4 := of_decide_eq_false t4
          try simp only [nc] at t4
          try simp only [minF_t] at t4
          try simp only [minF_f] at t4
          try dsimp only at t4
          have hn : num ≤ lim ∧ den ≤ lim := by simp only [lim]; omega
          refine .i64 (num : Int) (by show ((num % 18446744073709551616 : Nat) : Int) = _; omega) (by omega) (by omega) ?_
          conv => cbv
          refine .i64 (den : Int) (by show ((den % 18446744073709551616 : Nat) : Int) = _; omega) (by omega) (by omega) ?_
          conv => cbv
          refine ⟨fun h' => ?_, fun h' => ?_⟩
          · replace h' : neg = true := h'
            refine .i64 (-(num : Int)) (by show 0 - (num : Int) = _; omega) (by omega) (by omega) ?_
            conv => cbv
            refine hK.pure rfl (Mem.le_refl _) ?_
            rw [mkR, if_pos hn, h']
            rfl
          · replace h' : neg = false := h'
            refine hK.pure rfl (Mem.le_refl _) ?_
            rw [mkR, if_pos hn, h']
            rfl

end Go.SX

/- Reference of ratios: wide products, division. -/
namespace Go.SX
open Go.Proofs.Try Go.Proofs

theorem or_shift {x y s : Nat} (h : y < 2 ^ s) : x * 2 ^ s ||| y = x * 2 ^ s + y := by
  have := Nat.shiftLeft_add_eq_or_of_lt h x
  rw [Nat.shiftLeft_eq] at this
  exact this.symm

/-- A product, half word by half word. -/
theorem times_split {a b : Nat} (ha : a < 18446744073709551616) (hb : b < 18446744073709551616) {a1 a0 b1 b0 low cross mid : Nat} (e1 : a1 = a / 4294967296) (e2 : a0 = a % 4294967296) (e3 : b1 = b / 4294967296) (e4 : b0 = b % 4294967296)
    (e5 : low = a0 * b0) (e6 : cross = a1 * b0) (e7 : mid = cross % 4294967296 + a0 * b1 + low / 4294967296) :
    low < 18446744073709551616 ∧ cross < 18446744073709551616 ∧ a0 * b1 < 18446744073709551616 ∧ cross % 4294967296 + a0 * b1 < 18446744073709551616 ∧ mid < 18446744073709551616 ∧ a1 * b1 < 18446744073709551616 ∧
      a1 * b1 + cross / 4294967296 < 18446744073709551616 ∧ a1 * b1 + cross / 4294967296 + mid / 4294967296 = a * b / 18446744073709551616 ∧ mid % 4294967296 * 4294967296 + low % 4294967296 = a * b % 18446744073709551616 := by
  have h1 : a1 ≤ 4294967295 := by omega
  have h2 : a0 ≤ 4294967295 := by omega
  have h3 : b1 ≤ 4294967295 := by omega
  have h4 : b0 ≤ 4294967295 := by omega
  have m1 : a0 * b0 ≤ 4294967295 * 4294967295 := Nat.mul_le_mul h2 h4
  have m2 : a1 * b0 ≤ 4294967295 * 4294967295 := Nat.mul_le_mul h1 h4
  have m3 : a0 * b1 ≤ 4294967295 * 4294967295 := Nat.mul_le_mul h2 h3
  have m4 : a1 * b1 ≤ 4294967295 * 4294967295 := Nat.mul_le_mul h1 h3
  have ea : a = a1 * 4294967296 + a0 := by omega
  have eb : b = b1 * 4294967296 + b0 := by omega
  have prod : a * b = a1 * b1 * 18446744073709551616 + (a1 * b0 + a0 * b1) * 4294967296 + a0 * b0 := by
    rw [ea, eb, Nat.add_mul, Nat.mul_add, Nat.mul_add]
    have p1 : a1 * 4294967296 * (b1 * 4294967296) = a1 * b1 * 18446744073709551616 := by
      rw [Nat.mul_mul_mul_comm]
    have p2 : a1 * 4294967296 * b0 = a1 * b0 * 4294967296 := by rw [Nat.mul_right_comm]
    have p3 : a0 * (b1 * 4294967296) = a0 * b1 * 4294967296 := by rw [Nat.mul_assoc]
    rw [p1, p2, p3]
    omega
  rw [prod, ← e5, ← e6]
  generalize a0 * b1 = x at *
  generalize a1 * b1 = y at *
  rw [← e5] at m1
  rw [← e6] at m2
  clear e1 e2 e3 e4 ea eb prod h1 h2 h3 h4 e5 e6 ha hb
  subst e7
  omega

theorem ShS.shl32 {a b : Unit → Int} {p : (Unit → Int) → Prop} (x : Nat) (ha : a () = (x : Int)) (hb : b () = 32) (hp : p (fun _ => ((x % 4294967296 * 4294967296 : Nat) : Int))) : ShS .shl .u64 a b p :=
  .shlN x 32 _ ha hb (by decide) (by show _ = x * 4294967296 % 18446744073709551616; omega) hp

theorem times_spec (a b : Nat) (ha : a < 18446744073709551616) (hb : b < 18446744073709551616) (M : Mem) : Pure1 125 #[UV a, UV b] M (WV (a * b)) := by
  refine ok125.pure 200 [UA a, UA b] rfl (by kernel_rfl) fun c K hK => ?_
  obtain ⟨low, el⟩ : ∃ low, low = a % 4294967296 * (b % 4294967296) := ⟨_, rfl⟩
  obtain ⟨cross, ec⟩ : ∃ cross, cross = a / 4294967296 * (b % 4294967296) := ⟨_, rfl⟩
  obtain ⟨k1, k2, k3, k4, k5, k6, k7, k8, k9⟩ := times_split ha hb rfl rfl rfl rfl el ec rfl
  have kk : a * b / 18446744073709551616 < 18446744073709551616 := Nat.div_lt_of_lt_mul (Nat.mul_lt_mul'' ha hb)
  conv => cbv
  refine .shrN a 32 (a / 4294967296) rfl rfl (by decide) rfl ?_
  conv => cbv
  refine .low32 a rfl rfl ha ?_
  conv => cbv
  refine .shrN b 32 (b / 4294967296) rfl rfl (by decide) rfl ?_
  conv => cbv
  refine .low32 b rfl rfl hb ?_
  conv => cbv
  refine .nat low (by rw [el]; simp) k1 ?_
  conv => cbv
  refine .nat cross (by rw [ec]; simp) k2 ?_
  conv => cbv
  refine .low32 cross rfl rfl k2 ?_
  conv => cbv
  refine .nat (a % 4294967296 * (b / 4294967296)) (by simp) k3 ?_
  conv => cbv
  refine .nat (cross % 4294967296 + a % 4294967296 * (b / 4294967296)) (by simp) k4 ?_
  conv => cbv
  refine .shrN low 32 (low / 4294967296) rfl rfl (by decide) rfl ?_
  conv => cbv
  refine .nat (cross % 4294967296 + a % 4294967296 * (b / 4294967296) + low / 4294967296) (by simp) k5 ?_
  conv => cbv
  refine .nat (a / 4294967296 * (b / 4294967296)) (by simp) k6 ?_
  conv => cbv
  refine .shrN cross 32 (cross / 4294967296) rfl rfl (by decide) rfl ?_
  conv => cbv
  refine .nat (a / 4294967296 * (b / 4294967296) + cross / 4294967296) (by simp) k7 ?_
  conv => cbv
  refine .shrN (cross % 4294967296 + a % 4294967296 * (b / 4294967296) + low / 4294967296) 32 _ rfl rfl (by decide) rfl ?_
  conv => cbv
  refine .nat (a * b / 18446744073709551616) (by rw [← k8]; simp) kk ?_
  conv => cbv
  refine .shl32 (cross % 4294967296 + a % 4294967296 * (b / 4294967296) + low / 4294967296) rfl rfl ?_
  conv => cbv
  refine .low32 low rfl rfl k1 ?_
  conv => cbv
  refine .orN _ _ (a * b % 18446744073709551616) rfl rfl (by omega) (by omega) (by rw [← k9]; exact (or_shift (s := 32) (by omega)).symm) ?_
  conv => cbv
  refine hK.pure rfl (Mem.le_refl _) ?_
  rfl

/-! ### Division, bit by bit -/

theorem BitS.and63 {a b : Unit → Int} {p : (Unit → Int) → Prop} (x : Nat) (ha : a () = (x : Int)) (hb : b () = 63) (hx : x < 128) (hp : p (fun _ => ((x % 64 : Nat) : Int))) : BitS .and .i64 a b p := by
  refine .mk _ ?_ hp
  rw [ha, hb]
  simp only [bitF, Option.some.injEq]
  have h1 : (BitVec.ofInt 64 (x : Int)).toNat = x := by simp; omega
  have h2 : (BitVec.ofInt 64 (x : Int) &&& BitVec.ofInt 64 63).toNat = x % 64 := by
    rw [BitVec.toNat_and, h1]
    have : (BitVec.ofInt 64 63).toNat = 2 ^ 6 - 1 := by decide
    rw [this, Nat.and_two_pow_sub_one_eq_mod]
  show IntKind.i64.wrap ((BitVec.ofInt 64 (x : Int) &&& BitVec.ofInt 64 63).toNat : Int) = _
  rw [h2]
  exact wrap_i64 (by omega) (by omega)

theorem BitS.and1 {a b : Unit → Int} {p : (Unit → Int) → Prop} (x : Nat) (ha : a () = (x : Int)) (hb : b () = 1) (hx : x < 18446744073709551616) (hp : p (fun _ => ((x % 2 : Nat) : Int))) : BitS .and .u64 a b p := by
  refine .mk _ ?_ hp
  rw [ha, hb]
  simp only [bitF, Option.some.injEq]
  have h1 : (BitVec.ofInt 64 (x : Int)).toNat = x := by simp; omega
  have h2 : (BitVec.ofInt 64 (x : Int) &&& BitVec.ofInt 64 1).toNat = x % 2 := by
    rw [BitVec.toNat_and, h1]
    have : (BitVec.ofInt 64 1).toNat = 2 ^ 1 - 1 := by decide
    rw [this, Nat.and_two_pow_sub_one_eq_mod]
  show IntKind.u64.wrap ((BitVec.ofInt 64 (x : Int) &&& BitVec.ofInt 64 1).toNat : Int) = _
  rw [h2]
  exact wrap_u64 (by omega) (by omega)

theorem or_bit {x y : Nat} (h : y < 2) : x * 2 ||| y = x * 2 + y := by
  have := or_shift (x := x) (y := y) (s := 1) (by simpa using h)
  simpa using this

/-- The bits of a wide number lie in its words. -/
theorem bit_lo {a i : Nat} (hi : i < 64) : a % 18446744073709551616 / 2 ^ i % 2 = a / 2 ^ i % 2 := by
  have e : 18446744073709551616 = 2 ^ i * 2 ^ (64 - i) := by rw [← Nat.pow_add, show i + (64 - i) = 64 by omega]
  have e2 : 2 ^ (64 - i) = 2 * 2 ^ (63 - i) := by rw [show 64 - i = (63 - i) + 1 by omega, Nat.pow_succ, Nat.mul_comm]
  rw [e, Nat.mod_mul_right_div_self, e2, Nat.mod_mul_right_mod]

theorem bit_hi {a i : Nat} (hi : 64 ≤ i) : a / 18446744073709551616 / 2 ^ (i - 64) % 2 = a / 2 ^ i % 2 := by
  rw [Nat.div_div_eq_div_mul, show 18446744073709551616 = 2 ^ 64 from rfl, ← Nat.pow_add, show 64 + (i - 64) = i by omega]

theorem div_step {a d k : Nat} (hd : 0 < d) : (2 * (a / 2 ^ (k + 1) % d) + a / 2 ^ k % 2 < d → a / 2 ^ k / d = 2 * (a / 2 ^ (k + 1) / d) ∧ a / 2 ^ k % d = 2 * (a / 2 ^ (k + 1) % d) + a / 2 ^ k % 2) ∧
    (d ≤ 2 * (a / 2 ^ (k + 1) % d) + a / 2 ^ k % 2 → a / 2 ^ k / d = 2 * (a / 2 ^ (k + 1) / d) + 1 ∧ a / 2 ^ k % d = 2 * (a / 2 ^ (k + 1) % d) + a / 2 ^ k % 2 - d) := by
  have e1 : a / 2 ^ (k + 1) = a / 2 ^ k / 2 := by rw [Nat.pow_succ, Nat.div_div_eq_div_mul]
  rw [e1]
  generalize a / 2 ^ k = p
  obtain ⟨h, eh⟩ : ∃ h, p / 2 = h := ⟨_, rfl⟩
  have ep : p = 2 * h + p % 2 := by omega
  have hb : p % 2 < 2 := Nat.mod_lt _ (by decide)
  rw [eh]
  generalize p % 2 = bit at *
  have hdm := Nat.div_add_mod h d
  have hlt := Nat.mod_lt h hd
  generalize h / d = q at *
  generalize h % d = r at *
  have e3 : p = d * (2 * q) + (2 * r + bit) := by
    have : d * (2 * q) = 2 * (d * q) := by rw [Nat.mul_left_comm]
    omega
  constructor
  · intro hl
    rw [e3, Nat.mul_add_div hd, Nat.mul_add_mod, Nat.div_eq_of_lt hl, Nat.mod_eq_of_lt hl]
    exact ⟨by omega, rfl⟩
  · intro hg
    have e4 : p = d * (2 * q + 1) + (2 * r + bit - d) := by
      rw [Nat.mul_add]
      omega
    have hl : 2 * r + bit - d < d := by omega
    rw [e4, Nat.mul_add_div hd, Nat.mul_add_mod, Nat.div_eq_of_lt hl, Nat.mod_eq_of_lt hl]
    exact ⟨by omega, rfl⟩

end Go.SX

/- Reference of ratios: division of wide numbers. -/
namespace Go.SX
open Go.Proofs.Try Go.Proofs

theorem or_one {x : Nat} (h : x % 2 = 0) : x ||| 1 = x + 1 := by
  have := or_bit (x := x / 2) (y := 1) (by decide)
  rwa [show x / 2 * 2 = x by omega] at this

set_option maxRecDepth 100000 in
theorem split_spec (a d : Nat) (ha : a < W128) (hd : 0 < d) (hd2 : d < 9223372036854775808) (M : Mem) : Pure1 132 #[WV a, UV d] M (.tuple #[WV (a / d), UV (a % d)]) := by
  simp only [W128] at ha
  refine ok132.pure 200 [WA a, UA d] rfl (by kernel_rfl) fun c K hK => ?_
  have h0 : a / 2 ^ 128 = 0 := Nat.div_eq_of_lt (by simpa using ha)
  conv => cbv
  refine OKS.loopH (fun (k : Nat) => k ≤ 128) (fun k => [(7, UA (a / 2 ^ k % d)), (8, EA ((k : Int) - 1))]) (fun k => [(6, .cells 140 [UA (a / 2 ^ k / d / 18446744073709551616), UA (a / 2 ^ k / d % 18446744073709551616)])]) (fun _ => M) (fun k => k) 128 (Nat.le_refl _) ?_ ?_
  · refine ⟨by cbv <;> simp [h0], by cbv <;> simp [h0], by cbv, Mem.le_refl _⟩
  · intro k hk ih
    refine ok132.go 10 (by kernel_rfl) ?_
    conv => cbv
    refine ⟨fun t0 => ?_, fun t0 => ?_⟩
    · replace t0 := of_decide_eq_true t0
      try simp only [nc] at t0
      try simp only [minF_t] at t0
      try simp only [minF_f] at t0
      try dsimp only at t0
      obtain ⟨j, rfl⟩ : ∃ j, k = j + 1 := ⟨k - 1, by omega⟩
      have hr := Nat.mod_lt (a / 2 ^ (j + 1)) hd
      have hq := Nat.div_le_self (a / 2 ^ (j + 1)) d
      have hq2 : a / 2 ^ (j + 1) ≤ a := Nat.div_le_self _ _
      have hq3 : 2 * (a / 2 ^ (j + 1)) ≤ a := by
        have e1 : a / 2 ^ (j + 1) = a / 2 ^ j / 2 := by rw [Nat.pow_succ, Nat.div_div_eq_div_mul]
        have e2 : a / 2 ^ j ≤ a := Nat.div_le_self _ _
        omega
      have hb2 : a / 2 ^ j % 2 < 2 := Nat.mod_lt _ (by decide)
      obtain ⟨s1, s2⟩ := div_step (a := a) (d := d) (k := j) hd
      refine .and63 j (by show ((j + 1 : Nat) : Int) - 1 = _; omega) rfl (by omega) ?_
      conv => cbv
      refine .shrN (a % 18446744073709551616) (j % 64) _ rfl rfl (by omega) rfl ?_
      conv => cbv
      refine .and1 (a % 18446744073709551616 / 2 ^ (j % 64)) rfl rfl (Nat.lt_of_le_of_lt (Nat.div_le_self _ _) (by omega)) ?_
      conv => cbv
      refine OKS.cut (κ := Unit) (fun _ => True) (fun _ => [(9, UA (a / 2 ^ j % 2))]) (fun _ => []) (fun _ => M) ?_ fun hj => ?_
      · intro _ _
        generalize hbit : a / 2 ^ j % 2 = bit at *
        generalize hrr : a / 2 ^ (j + 1) % d = r at *
        generalize hqq : a / 2 ^ (j + 1) / d = q at *
        refine ok132.go 100 (by kernel_rfl) ?_
        conv => cbv
        refine .shlN r 1 (r * 2) rfl rfl (by decide) (by omega) ?_
        conv => cbv
        refine .orN (r * 2) bit (r * 2 + bit) rfl rfl (by omega) (by omega) (or_bit hb2).symm ?_
        conv => cbv
        refine CallS.pure (plus_spec q q (by simp only [W128]; omega) M) rfl (WA (q + q)) rfl rfl ?_
        conv => cbv
        refine ⟨fun t1 => ?_, fun t1 => ?_⟩
        · replace t1 := of_decide_eq_true t1
          try simp only [nc] at t1
          try simp only [minF_t] at t1
          try simp only [minF_f] at t1
          try dsimp only at t1
          refine .nat (r * 2 + bit - d) (by show ((r * 2 + bit : Nat) : Int) - (d : Int) = _; omega) (by omega) ?_
          conv => cbv
          refine .orN ((q + q) % 18446744073709551616) 1 ((q + q) % 18446744073709551616 + 1) rfl (by show (1 : Int) = ((1 : Nat) : Int); rfl) (by omega) (by omega) (or_one (by omega)).symm ?_
          conv => cbv
          refine .i64 ((j : Int) - 1) (by show ((j + 1 : Nat) : Int) - 1 - 1 = _; omega) (by omega) (by omega) ?_
          conv => cbv
          obtain ⟨u1, u2⟩ := s2 (by omega)
          have u2 : a / 2 ^ j % d = r * 2 + bit - d := by omega
          have v1 : a / 2 ^ j / d / 18446744073709551616 = (q + q) / 18446744073709551616 := by rw [u1]; omega
          have v2 : a / 2 ^ j / d % 18446744073709551616 = (q + q) % 18446744073709551616 + 1 := by rw [u1]; omega
          refine ih j (by omega) (by omega) _ ?_
          refine ⟨by cbv <;> simp [u2], by cbv <;> simp [v1, v2], by cbv, Mem.le_refl _⟩
        · replace t1 := of_decide_eq_false t1
          try simp only [nc] at t1
          try simp only [minF_t] at t1
          try simp only [minF_f] at t1
          try dsimp only at t1
          refine .i64 ((j : Int) - 1) (by show ((j + 1 : Nat) : Int) - 1 - 1 = _; omega) (by omega) (by omega) ?_
          conv => cbv
          obtain ⟨u1, u2⟩ := s1 (by omega)
          have u2 : a / 2 ^ j % d = r * 2 + bit := by omega
          have v1 : a / 2 ^ j / d / 18446744073709551616 = (q + q) / 18446744073709551616 := by rw [u1]; omega
          have v2 : a / 2 ^ j / d % 18446744073709551616 = (q + q) % 18446744073709551616 := by rw [u1]; omega
          refine ih j (by omega) (by omega) _ ?_
          refine ⟨by cbv <;> simp [u2], by cbv <;> simp [v1, v2], by cbv, Mem.le_refl _⟩
      · refine ok132.go 100 (by kernel_rfl) ?_
        conv => cbv
        refine ⟨fun t2 => ?_, fun t2 => ?_⟩
        · replace t2 := of_decide_eq_true t2
          try simp only [nc] at t2
          try simp only [minF_t] at t2
          try simp only [minF_f] at t2
          try dsimp only at t2
          refine .and63 j (by show ((j + 1 : Nat) : Int) - 1 = _; omega) rfl (by omega) ?_
          conv => cbv
          refine .shrN (a / 18446744073709551616) (j % 64) _ rfl rfl (by omega) rfl ?_
          conv => cbv
          refine .and1 (a / 18446744073709551616 / 2 ^ (j % 64)) rfl rfl (Nat.lt_of_le_of_lt (Nat.div_le_self _ _) (by omega)) ?_
          conv => cbv
          have e := bit_hi (a := a) (i := j) (by omega)
          rw [show j - 64 = j % 64 by omega] at e
          refine hj () trivial _ ⟨by cbv <;> simp [e], by cbv <;> simp, by cbv, Mem.le_refl _⟩
        · replace t2 := of_decide_eq_false t2
          try simp only [nc] at t2
          try simp only [minF_t] at t2
          try simp only [minF_f] at t2
          try dsimp only at t2
          have e := bit_lo (a := a) (i := j) (by omega)
          have e64 : j % 64 = j := Nat.mod_eq_of_lt (by omega)
          refine hj () trivial _ ⟨by cbv <;> simp [e64, e], by cbv <;> simp, by cbv, Mem.le_refl _⟩
    · replace t0 := of_decide_eq_false t0
      try simp only [nc] at t0
      try simp only [minF_t] at t0
      try simp only [minF_f] at t0
      try dsimp only at t0
      have : k = 0 := by omega
      subst this
      refine hK.pure rfl (Mem.le_refl _) ?_
      simp [AV.val, AV.den, AV.denL]

end Go.SX
