/- Package ratio: its checks. -/
import Derived.Test.YtojdihbanakhgaaAgA
import Derived.Test.YtojdihbanakhgaaAgV
namespace Go.SX
open Go.Proofs.Try Go.Proofs

abbrev RV (a : R) : Value := .agg #[.int .i64 a.n, .int .i64 a.d]
abbrev RA (a : R) : AV := .agg [.sym .i64 fun _ => a.n, .sym .i64 fun _ => a.d]
abbrev EV (n : Int) : Value := .int .i64 n
abbrev EA (n : Int) : AV := .sym .i64 fun _ => n
abbrev UV (n : Nat) : Value := .int .u64 (n : Int)
abbrev UA (n : Nat) : AV := .sym .u64 fun _ => (n : Int)

theorem minF_t (a b : Int) : minF true a b = max a b := by simp only [minF, if_true]; split <;> omega
theorem minF_f (a b : Int) : minF false a b = min a b := by simp only [minF, Bool.false_eq_true, if_false]; split <;> omega

structure R.Wf (a : R) : Prop where
  n : I64 a.n
  d : I64 a.d

theorem R.Wf.of_ok {a : R} (h : a.ok = true) : a.Wf := by
  have := R.ok_iff.1 h
  simp only [lim] at this
  exact ⟨⟨by omega, by omega⟩, ⟨by omega, by omega⟩⟩

def okE (a : R) : Int := if a.ok then 0 else 8

theorem okE_f {a : R} (h : ¬ (a.ok = true)) : (8 : Int) = okE a := by simp [okE, h]
theorem okE_t {a : R} (h : a.ok = true) : (0 : Int) = okE a := by simp [okE, h]

theorem check_spec (a : R) (ha : a.Wf) (M : Mem) : Pure1 79 #[RV a] M (EV (okE a)) := by
  obtain ⟨⟨h1, h2⟩, ⟨h3, h4⟩⟩ := ha
  refine ok79.pure 200 [RA a] rfl (by kernel_rfl) fun c K hK => ?_
  conv => cbv
  refine ⟨fun h => ?_, fun h => ?_⟩
  · replace h := of_decide_eq_true h
    try simp only [nc] at h
    try simp only [minF_t] at h
    try simp only [minF_f] at h
    try dsimp only at h
    refine hK.pure rfl (Mem.le_refl _) ?_
    refine congrArg EV (okE_f fun e => ?_)
    have := R.ok_iff.1 e
    omega
  · replace h := of_decide_eq_false h
    try simp only [nc] at h
    try simp only [minF_t] at h
    try simp only [minF_f] at h
    try dsimp only at h
    refine .u64 a.d rfl (by omega) (by omega) ?_
    conv => cbv
    refine CallS.pure (size_spec a.n ⟨h1, h2⟩ M) rfl (UA a.n.natAbs) rfl rfl ?_
    conv => cbv
    refine ⟨fun h5 => ?_, fun h5 => ?_⟩
    · replace h5 := of_decide_eq_true h5
      try simp only [nc] at h5
      try simp only [minF_t] at h5
      try simp only [minF_f] at h5
      try dsimp only at h5
      refine hK.pure rfl (Mem.le_refl _) ?_
      refine congrArg EV (okE_f fun e => ?_)
      have := R.ok_iff.1 e
      simp only [lim] at this
      omega
    · replace h5 := of_decide_eq_false h5
      try simp only [nc] at h5
      try simp only [minF_t] at h5
      try simp only [minF_f] at h5
      try dsimp only at h5
      have ed : a.d = (a.d.natAbs : Int) := by omega
      refine .u64 a.d rfl (by omega) (by omega) ?_
      conv => cbv
      refine CallS.pure (size_spec a.n ⟨h1, h2⟩ M) rfl (UA a.n.natAbs) rfl rfl ?_
      conv => cbv
      refine CallS.pure (gcd_spec a.n.natAbs a.d.natAbs M) (by simp [AV.vals, AV.denL, AV.den, ← ed]) (UA (Nat.gcd a.n.natAbs a.d.natAbs)) rfl rfl ?_
      conv => cbv
      refine ⟨fun h6 => ?_, fun h6 => ?_⟩
      · replace h6 := of_decide_eq_true h6
        try simp only [nc] at h6
        try simp only [minF_t] at h6
        try simp only [minF_f] at h6
        try dsimp only at h6
        refine hK.pure rfl (Mem.le_refl _) ?_
        refine congrArg EV (okE_f fun e => ?_)
        have := R.ok_iff.1 e
        omega
      · replace h6 := of_decide_eq_false h6
        try simp only [nc] at h6
        try simp only [minF_t] at h6
        try simp only [minF_f] at h6
        try dsimp only at h6
        refine hK.pure rfl (Mem.le_refl _) ?_
        refine congrArg EV (okE_t (R.ok_iff.2 ?_))
        have := Nat.gcd_pos_of_pos_right a.n.natAbs (show 0 < a.d.natAbs by omega)
        simp only [lim]
        omega

theorem signed_spec (neg : Bool) (num den : Nat) (h1 : num < 18446744073709551616) (h2 : den < 18446744073709551616) (M : Mem) : Pure1 107 #[.bool neg, UV num, UV den] M (.tuple #[RV (mkR neg num den).1, EV (mkR neg num den).2]) := by
  refine ok107.pure 200 [.sb fun _ => neg, UA num, UA den] rfl (by kernel_rfl) fun c K hK => ?_
  conv => cbv
  refine ⟨fun h => ?_, fun h => ?_⟩
  · replace h := of_decide_eq_true h
    try simp only [nc] at h
    try simp only [minF_t] at h
    try simp only [minF_f] at h
    try dsimp only at h
    refine hK.pure rfl (Mem.le_refl _) ?_
    rw [mkR, if_neg (by simp only [lim]; omega)]
    rfl
  · replace h := of_decide_eq_false h
    try simp only [nc] at h
    try simp only [minF_t] at h
    try simp only [minF_f] at h
    try dsimp only at h
    have hn : num ≤ lim ∧ den ≤ lim := by simp only [lim]; omega
    have hn' := hn
    simp only [lim] at hn'
    refine ⟨fun h' => ?_, fun h' => ?_⟩
    · replace h' : neg = true := h'
      refine .i64 (num : Int) rfl (by omega) (by omega) ?_
      conv => cbv
      refine .i64 (-(num : Int)) (by show 0 - (num : Int) = _; omega) (by omega) (by omega) ?_
      conv => cbv
      refine .i64 (den : Int) rfl (by omega) (by omega) ?_
      conv => cbv
      refine hK.pure rfl (Mem.le_refl _) ?_
      rw [mkR, if_pos hn, h']
      rfl
    · replace h' : neg = false := h'
      refine .i64 (num : Int) rfl (by omega) (by omega) ?_
      conv => cbv
      refine .i64 (den : Int) rfl (by omega) (by omega) ?_
      conv => cbv
      refine hK.pure rfl (Mem.le_refl _) ?_
      rw [mkR, if_pos hn, h']
      rfl

theorem OKS.unloop {f : Nat} {c : Ct} {K : S → AV → Prop} {q : Unit → Q} {r : List It} {s : S} (h : OKS f c K (.code q :: .inLoop q :: r) s) : OKS f c K (.code (fun _ => .loop q) :: r) s :=
  OKS.of_step (stk' := .code q :: .inLoop q :: r) (fun _ _ _ _ => step_loop) h

theorem or_spec (a b : Int) (p : Nat) (o k : Nat) (M : Mem) (hc : CellsAt M p o [EV a, EV b]) : Pure1 123 #[.slice (some ⟨p, o, none⟩) 2 k] M (EV (if a = 0 then b else a)) := by
  refine ok123.pure 200 [.slice (fun _ => some ⟨p, o, none⟩) (fun _ => 2) (fun _ => k)] rfl (by kernel_rfl) fun c K hK => ?_
  conv => cbv
  refine OKS.unloop ?_
  refine ok123.go 100 (by kernel_rfl) ?_
  conv => cbv
  refine ⟨fun h => ?_, fun h => by cases h⟩
  refine .mk p o 0 rfl rfl (by decide) ?_
  conv => cbv
  refine .mk (EA a) rfl hc.1 ?_
  conv => cbv
  refine ⟨fun h0 => ?_, fun h0 => ?_⟩
  · replace h0 := of_decide_eq_true h0
    try simp only [nc] at h0
    try simp only [minF_t] at h0
    try simp only [minF_f] at h0
    try dsimp only at h0
    refine hK.pure rfl (Mem.le_refl _) ?_
    simp only [if_neg h0]
    rfl
  · replace h0 := of_decide_eq_false h0
    try simp only [nc] at h0
    try simp only [minF_t] at h0
    try simp only [minF_f] at h0
    try dsimp only at h0
    have h0 : a = 0 := by omega
    refine OKS.inLoop ?_
    refine ok123.go 100 (by kernel_rfl) ?_
    conv => cbv
    refine ⟨fun h => ?_, fun h => by cases h⟩
    refine .mk p o 1 rfl rfl (by decide) ?_
    conv => cbv
    refine .mk (EA b) rfl hc.2.1 ?_
    conv => cbv
    refine ⟨fun h1 => ?_, fun h1 => ?_⟩
    · replace h1 := of_decide_eq_true h1
      try simp only [nc] at h1
      try simp only [minF_t] at h1
      try simp only [minF_f] at h1
      try dsimp only at h1
      refine hK.pure rfl (Mem.le_refl _) ?_
      simp only [if_pos h0]
      rfl
    · replace h1 := of_decide_eq_false h1
      try simp only [nc] at h1
      try simp only [minF_t] at h1
      try simp only [minF_f] at h1
      try dsimp only at h1
      have h1 : b = 0 := by omega
      refine OKS.inLoop ?_
      refine ok123.go 100 (by kernel_rfl) ?_
      conv => cbv
      refine ⟨fun h => (by cases h), fun h => ?_⟩
      refine hK.pure rfl (Mem.le_refl _) ?_
      simp only [if_pos h0, h1]
      rfl

theorem CellsAt.new {M M' : Mem} {b T N : Nat} {cs : List Value} (h : M' = M.set b (.row T N cs)) : CellsAt M' b 0 cs := CellsAt.row (T := T) (N := N) (by rw [h]; simp [Mem.set])

set_option maxRecDepth 100000 in
theorem check2_spec (a b : R) (ha : a.Wf) (hb : b.Wf) (M : Mem) : Pure1 103 #[RV a, RV b] M (EV (if a.ok && b.ok then 0 else 8)) := by
  refine ok103.pure 200 [RA a, RA b] rfl (by kernel_rfl) fun c K hK => ?_
  conv => cbv
  refine CallS.pure (check_spec a ha M) rfl (EA (okE a)) rfl rfl ?_
  conv => cbv
  refine CallS.pure (check_spec b hb M) rfl (EA (okE b)) rfl rfl ?_
  conv => cbv
  refine .mk trivial fun b' M' hn hB hM' => ?_
  conv => cbv
  have hrow : CellsAt M' b' 0 [EV (okE a), EV (okE b)] := CellsAt.new (T := 27) (N := 2) hM'
  refine CallS.pure (or_spec (okE a) (okE b) b' 0 2 M' hrow) rfl (EA (if a.ok && b.ok then 0 else 8)) rfl ?_ ?_
  · refine congrArg EV ?_
    unfold okE
    cases a.ok <;> cases b.ok <;> rfl
  conv => cbv
  exact hK.pure rfl (by rw [hM']; exact Mem.le_set hn) rfl

end Go.SX
