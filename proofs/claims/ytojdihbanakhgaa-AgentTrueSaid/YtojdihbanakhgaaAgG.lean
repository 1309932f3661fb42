/- Package cake: points, the total, what right cakes are. -/
import Derived.Test.YtojdihbanakhgaaAgE
import Derived.Test.YtojdihbanakhgaaAgF
namespace Go.SX
open Go.Proofs.Try Go.Proofs

/-! ### What the results of reckoning are -/

theorem mkR_wf (x : Bool) (n d : Nat) : (mkR x n d).1.Wf := by
  unfold mkR
  split
  · rename_i h
    obtain ⟨h1, h2⟩ := h
    simp only [lim] at h1 h2
    refine ⟨?_, ?_⟩
    · cases x <;> simp [I64] <;> omega
    · simp [I64]; omega
  · exact ⟨by simp [R.zero, I64], by simp [R.zero, I64]⟩

theorem zeroR_wf : R.zero.Wf := ⟨by simp [R.zero, I64], by simp [R.zero, I64]⟩
theorem of_wf {n : Int} (h : I64 n) : (R.of n).Wf := ⟨h, by simp [R.of, I64]⟩
theorem addR_wf (a b : R) : (addR a b).1.Wf := by unfold addR; split; exact mkR_wf ..; exact zeroR_wf
theorem subR_wf (a b : R) : (subR a b).1.Wf := by unfold subR; split; exact mkR_wf ..; exact zeroR_wf
theorem mulR_wf (a b : R) : (mulR a b).1.Wf := by unfold mulR; split; exact mkR_wf ..; exact zeroR_wf
theorem divR_wf (a b : R) : (divR a b).1.Wf := by
  unfold divR
  split
  · split
    · exact zeroR_wf
    · exact mkR_wf ..
  · exact zeroR_wf

/-! ### Package cake, plainly -/

def lessC (a b : R) : Bool := a.ok && b.ok && ltR a b
def pointC (len : Int) (p : R) : Bool := p.ok && decide (0 ≤ p.n) && !lessC (R.of len) p

def pairs (c : CakeV) : List (Int × Int) := List.zip (c.cuts.drop 1) c.dens

def totL : List Int → List Int → Int
  | a :: b :: l, d :: m => d * (b - a) + totL (b :: l) m
  | _, _ => 0

def totalC (c : CakeV) : Int × Int := if checkC c = 0 then (totL c.cuts c.dens, 0) else (0, checkC c)

def valL (b : R) : List (Int × Int) → R → R → R × Int
  | [], sum, _ => (sum, 0)
  | (e, d) :: l, sum, at_ =>
    let en := if lessC b (R.of e) then b else R.of e
    if d = 0 ∨ lessC at_ en = false then valL b l sum (if lessC at_ en then en else at_)
    else if (subR en at_).2 ≠ 0 then (R.zero, (subR en at_).2)
    else if (mulR (subR en at_).1 (R.of d)).2 ≠ 0 then (R.zero, (mulR (subR en at_).1 (R.of d)).2)
    else if (addR sum (mulR (subR en at_).1 (R.of d)).1).2 ≠ 0 then (R.zero, (addR sum (mulR (subR en at_).1 (R.of d)).1).2)
    else valL b l (addR sum (mulR (subR en at_).1 (R.of d)).1).1 en

def valueC (c : CakeV) (a b : R) : R × Int :=
  if checkC c ≠ 0 then (R.zero, checkC c)
  else if pointC c.len a = false ∨ pointC c.len b = false ∨ lessC b a = true then (R.zero, 2)
  else valL b (pairs c) (R.of 0) a

theorem whole_spec (n : Int) (_h : I64 n) (M : Mem) : Pure1 73 #[EV n] M (RV (R.of n)) := by
  refine ok73.pure 200 [EA n] rfl (by kernel_rfl) fun c K hK => ?_
  conv => cbv
  refine hK.pure rfl (Mem.le_refl _) ?_
  rfl

theorem cmpR_neg (a b : R) : decide (cmpR a b < 0) = ltR a b := by
  unfold cmpR ltR
  by_cases h : a.n * b.d < b.n * a.d
  · simp [h]
  · rw [if_neg h, decide_eq_false h]
    split <;> simp

theorem less_spec (a b : R) (ha : a.Wf) (hb : b.Wf) (M : Mem) : Pure1 72 #[RV a, RV b] M (.bool (lessC a b)) := by
  by_cases hok : (a.ok && b.ok) = true
  · refine ok72.pure 200 [RA a, RA b] rfl (by kernel_rfl) fun c K hK => ?_
    conv => cbv
    refine CallS.pure (cmp_spec a b hok M) rfl (.tup [EA (cmpR a b), EA 0]) rfl rfl ?_
    conv => cbv
    refine hK.pure rfl (Mem.le_refl _) ?_
    simp only [lessC, hok, Bool.true_and, ← cmpR_neg]
    rfl
  · refine ok72.pure 200 [RA a, RA b] rfl (by kernel_rfl) fun c K hK => ?_
    conv => cbv
    refine CallS.pure (cmp_specA a b ha hb hok M) rfl (.tup [EA 0, EA 8]) rfl rfl ?_
    conv => cbv
    refine hK.pure rfl (Mem.le_refl _) ?_
    have : (a.ok && b.ok) = false := by simpa using hok
    simp only [lessC, this, Bool.false_and]
    rfl

theorem point_spec {q : CP} {c : CakeV} {M : Mem} (h : Ck M q c) (p : R) (hp : p.Wf) : Pure1 71 #[q.val, RV p] M (.bool (pointC c.len p)) := by
  obtain ⟨len, ca, cn, ck, da, dn, dk⟩ := q
  obtain ⟨e1, hi, hc, hd⟩ := h
  simp only at e1 hc hd
  subst e1
  refine ok71.pure 200 [.agg [EA c.len, SA ca cn ck, SA da dn dk], RA p] rfl (by kernel_rfl) fun c' K hK => ?_
  conv => cbv
  refine CallS.pure (check_spec p hp M) rfl (EA (okE p)) rfl rfl ?_
  conv => cbv
  refine ⟨fun h1 => ?_, fun h1 => ?_⟩
  · replace h1 := of_decide_eq_true h1
    try simp only [nc] at h1
    try simp only [minF_t] at h1
    try simp only [minF_f] at h1
    try dsimp only at h1
    have h1 : p.ok = true := by
      unfold okE at h1
      split at h1
      · assumption
      · omega
    refine ⟨fun h2 => ?_, fun h2 => ?_⟩
    · replace h2 := of_decide_eq_true h2
      try simp only [nc] at h2
      try simp only [minF_t] at h2
      try simp only [minF_f] at h2
      try dsimp only at h2
      refine CallS.pure (whole_spec c.len hi M) rfl (RA (R.of c.len)) rfl rfl ?_
      conv => cbv
      refine CallS.pure (less_spec (R.of c.len) p (of_wf hi) hp M) rfl (.sb fun _ => lessC (R.of c.len) p) rfl rfl ?_
      conv => cbv
      refine hK.pure rfl (Mem.le_refl _) ?_
      simp only [pointC, h1, decide_eq_true h2, Bool.true_and]
      rfl
    · replace h2 := of_decide_eq_false h2
      try simp only [nc] at h2
      try simp only [minF_t] at h2
      try simp only [minF_f] at h2
      try dsimp only at h2
      refine hK.pure rfl (Mem.le_refl _) ?_
      simp only [pointC, decide_eq_false h2, Bool.and_false, Bool.false_and]
      rfl
  · replace h1 := of_decide_eq_false h1
    try simp only [nc] at h1
    try simp only [minF_t] at h1
    try simp only [minF_f] at h1
    try dsimp only at h1
    have h1 : p.ok = false := by
      unfold okE at h1
      split at h1
      · exact absurd rfl h1
      · simpa using ‹¬ p.ok = true›
    refine hK.pure rfl (Mem.le_refl _) ?_
    simp only [pointC, h1, Bool.false_and]
    rfl

/-! ### A cake that is right -/

theorem minL_foldl (l : List Int) : ∀ x, l.foldl min x ≤ x ∧ ∀ y ∈ l, l.foldl min x ≤ y := by
  induction l with
  | nil => intro x; simp
  | cons z l ih =>
    intro x
    obtain ⟨h1, h2⟩ := ih (min x z)
    refine ⟨by simp only [List.foldl_cons]; omega, fun y hy => ?_⟩
    simp only [List.foldl_cons]
    rcases List.mem_cons.1 hy with rfl | hy
    · omega
    · exact h2 y hy

theorem maxL_foldl (l : List Int) : ∀ x, x ≤ l.foldl max x ∧ ∀ y ∈ l, y ≤ l.foldl max x := by
  induction l with
  | nil => intro x; simp
  | cons z l ih =>
    intro x
    obtain ⟨h1, h2⟩ := ih (max x z)
    refine ⟨by simp only [List.foldl_cons]; omega, fun y hy => ?_⟩
    simp only [List.foldl_cons]
    rcases List.mem_cons.1 hy with rfl | hy
    · omega
    · exact h2 y hy

theorem minL_le {l : List Int} {x : Int} (h : x ∈ l) : minL l ≤ x := by
  cases l with
  | nil => cases h
  | cons y l =>
    rcases List.mem_cons.1 h with rfl | h
    · exact (minL_foldl l _).1
    · exact (minL_foldl l _).2 x h
theorem le_maxL {l : List Int} {x : Int} (h : x ∈ l) : x ≤ maxL l := by
  cases l with
  | nil => cases h
  | cons y l =>
    rcases List.mem_cons.1 h with rfl | h
    · exact (maxL_foldl l _).1
    · exact (maxL_foldl l _).2 x h

structure Good (c : CakeV) : Prop where
  l1 : 1 ≤ c.len
  l2 : c.len ≤ 1000
  n1 : 2 ≤ c.cuts.length
  n2 : c.cuts.length ≤ 40
  n3 : c.dens.length + 1 = c.cuts.length
  first : c.cuts[0]? = some 0
  last : c.cuts[c.cuts.length - 1]? = some c.len
  up : ∀ i (h : i + 1 < c.cuts.length), c.cuts[i] < c.cuts[i + 1]
  dens : ∀ d ∈ c.dens, 0 ≤ d ∧ d ≤ 12

theorem good {c : CakeV} (h : checkC c = 0) : Good c := by
  unfold checkC at h
  split at h
  · omega
  · rename_i h1
    split at h
    · omega
    · rename_i h2
      split at h
      · rename_i h3
        rw [Bool.and_eq_true] at h3
        obtain ⟨h3, h4⟩ := h3
        simp only [dens12, Bool.not_eq_true', Bool.or_eq_false_iff, decide_eq_false_iff_not] at h4
        have k : ∀ {p q : Prop}, ¬ (p ∨ q) → ¬ p ∧ ¬ q := fun h => ⟨fun hp => h (.inl hp), fun hq => h (.inr hq)⟩
        obtain ⟨a1, h2⟩ := k h2
        obtain ⟨a2, h2⟩ := k h2
        obtain ⟨a3, h2⟩ := k h2
        obtain ⟨a4, a5⟩ := k h2
        refine ⟨by omega, by omega, by omega, by omega, by omega, ?_, ?_, incr_iff.1 h3, fun d hd => ?_⟩
        · exact Decidable.byContradiction a4
        · exact Decidable.byContradiction a5
        · have := minL_le hd
          have := le_maxL hd
          omega
      · omega

theorem Good.mono {c : CakeV} (h : Good c) : ∀ j i (hj : j < c.cuts.length) (hi : i ≤ j), c.cuts[i] ≤ c.cuts[j]
  | 0, i, hj, hi => by have : i = 0 := by omega
                       subst this; exact Int.le_refl _
  | j + 1, i, hj, hi => by
    rcases Nat.lt_or_ge i (j + 1) with hlt | hge
    · have h1 := h.mono j i (by omega) (by omega)
      have h2 := h.up j hj
      omega
    · have : i = j + 1 := by omega
      subst this; exact Int.le_refl _

theorem Good.cut {c : CakeV} (h : Good c) {i : Nat} (hi : i < c.cuts.length) : 0 ≤ c.cuts[i] ∧ c.cuts[i] ≤ c.len := by
  have h1 := h.mono i 0 hi (Nat.zero_le _)
  have h2 := h.mono (c.cuts.length - 1) i (by omega) (by omega)
  have e1 := h.first
  have e2 := h.last
  rw [List.getElem?_eq_getElem (by omega)] at e1 e2
  have e1 := Option.some.inj e1
  have e2 := Option.some.inj e2
  omega

theorem drop_cons' {α : Type} {l : List α} {i : Nat} (h : i < l.length) : l.drop i = l[i] :: l.drop (i + 1) := List.drop_eq_getElem_cons h

theorem total_spec {q : CP} {c : CakeV} {M : Mem} (h : Ck M q c) : Pure1 86 #[q.val] M (.tuple #[EV (totalC c).1, EV (totalC c).2]) := by
  have hck := h
  obtain ⟨len, ca, cn, ck, da, dn, dk⟩ := q
  obtain ⟨e1, hi, hc, hd⟩ := h
  simp only at e1 hc hd
  subst e1
  have hcn := hc.len
  have hdn := hd.len
  by_cases hk : checkC c = 0
  · have g := good hk
    have g1 := g.n1
    have g2 := g.n2
    have g3 := g.n3
    have g4 := g.l2
    have htot : totalC c = (totL c.cuts c.dens, 0) := by rw [totalC, if_pos hk]
    rw [htot]
    refine ok86.pure 200 [.agg [EA c.len, SA ca cn ck, SA da dn dk]] rfl (by kernel_rfl) fun c' K hK => ?_
    conv => cbv
    refine CallS.pure (cakeCheck_spec hck) rfl (EA 0) rfl (by rw [hk]; rfl) ?_
    conv => cbv
    refine ⟨fun h => (by cases h), fun _ => ?_⟩
    refine OKS.loopH (fun (p : Nat × Int) => p.1 ≤ dn ∧ (∀ h : p.1 < c.cuts.length, 0 ≤ p.2 ∧ p.2 ≤ 12 * c.cuts[p.1]) ∧ p.2 + totL (c.cuts.drop p.1) (c.dens.drop p.1) = totL c.cuts c.dens)
      (fun p => [(5, EA p.2), (16, EA p.1)]) (fun _ => []) (fun _ => M) (fun p => dn - p.1) (0, 0) ⟨by simp, fun h => ?_, by simp⟩ ?_ ?_
    · have := g.cut (i := 0) (by omega)
      show (0 : Int) ≤ 0 ∧ (0 : Int) ≤ 12 * c.cuts[0]
      omega
    · refine ⟨by cbv <;> simp, by cbv <;> simp, by cbv, Mem.le_refl _⟩
    · intro ⟨i, sum⟩ ⟨hi1, hi2, hi3⟩ ih
      simp only at hi1 hi2 hi3
      have hs := hi2 (by omega)
      have hb1 := g.cut (i := i) (by omega)
      refine ok86.go 100 (by kernel_rfl) ?_
      conv => cbv
      refine ⟨fun l1 => ?_, fun l1 => ?_⟩
      · replace l1 := of_decide_eq_true l1
        try simp only [nc] at l1
        try simp only [minF_t] at l1
        try simp only [minF_f] at l1
        try dsimp only at l1
        have hb2 := g.cut (i := i + 1) (by omega)
        have hup := g.up i (by omega)
        obtain ⟨b, o, ea, hx, hxi⟩ := hd.idx (i := i) (by omega)
        have hdm := g.dens _ (List.getElem_mem (show i < c.dens.length by omega))
        refine .mk b o i ea rfl (by show i < dn; omega) ?_
        conv => cbv
        refine .mk (EA c.dens[i]) rfl hx ?_
        conv => cbv
        refine .i64 ((i + 1 : Nat) : Int) (by show (i : Int) + 1 = _; omega) (by omega) (by omega) ?_
        conv => cbv
        obtain ⟨b1, o1, ea1, hx1, hxi1⟩ := hc.idx (i := i + 1) (by omega)
        refine .mk b1 o1 (i + 1) ea1 rfl (by show i + 1 < cn; omega) ?_
        conv => cbv
        refine .mk (EA c.cuts[i + 1]) rfl hx1 ?_
        conv => cbv
        obtain ⟨b2, o2, ea2, hx2, hxi2⟩ := hc.idx (i := i) (by omega)
        refine .mk b2 o2 i ea2 rfl (by show i < cn; omega) ?_
        conv => cbv
        refine .mk (EA c.cuts[i]) rfl hx2 ?_
        conv => cbv
        have m1 := Int.mul_le_mul_of_nonneg_right hdm.2 (show 0 ≤ c.cuts[i + 1] - c.cuts[i] by omega)
        have m2 := Int.mul_nonneg hdm.1 (show 0 ≤ c.cuts[i + 1] - c.cuts[i] by omega)
        refine .i64 (c.cuts[i + 1] - c.cuts[i]) rfl (by omega) (by omega) ?_
        conv => cbv
        refine .i64 (c.dens[i] * (c.cuts[i + 1] - c.cuts[i])) rfl (by omega) (by omega) ?_
        conv => cbv
        refine .i64 (sum + c.dens[i] * (c.cuts[i + 1] - c.cuts[i])) rfl (by omega) (by omega) ?_
        conv => cbv
        refine .i64 ((i + 1 : Nat) : Int) (by show (i : Int) + 1 = _; omega) (by omega) (by omega) ?_
        conv => cbv
        refine ih (i + 1, sum + c.dens[i] * (c.cuts[i + 1] - c.cuts[i])) ⟨by simp only; omega, fun h => by simp only; omega, ?_⟩ (by simp only; omega) _ ?_
        · simp only
          rw [← hi3, drop_cons' (show i < c.cuts.length by omega), drop_cons' (show i + 1 < c.cuts.length by omega), drop_cons' (show i < c.dens.length by omega)]
          simp only [totL]
          omega
        · refine ⟨by cbv <;> simp, by cbv <;> simp, by cbv, Mem.le_refl _⟩
      · replace l1 := of_decide_eq_false l1
        try simp only [nc] at l1
        try simp only [minF_t] at l1
        try simp only [minF_f] at l1
        try dsimp only at l1
        have : i = dn := by omega
        subst this
        refine hK.pure rfl (Mem.le_refl _) ?_
        have e : totL (c.cuts.drop i) (c.dens.drop i) = 0 := by
          have e0 : c.dens.drop i = [] := List.drop_eq_nil_of_le (by omega)
          rw [e0]
          cases List.drop i c.cuts with
          | nil => rfl
          | cons x l => cases l <;> rfl
        rw [← hi3, e, Int.add_zero]
        rfl
  · have htot : totalC c = (0, checkC c) := by rw [totalC, if_neg hk]
    rw [htot]
    refine ok86.pure 200 [.agg [EA c.len, SA ca cn ck, SA da dn dk]] rfl (by kernel_rfl) fun c' K hK => ?_
    conv => cbv
    refine CallS.pure (cakeCheck_spec hck) rfl (EA (checkC c)) rfl rfl ?_
    conv => cbv
    refine ⟨fun h1 => ?_, fun h1 => ?_⟩
    · replace h1 := of_decide_eq_true h1
      try simp only [nc] at h1
      try simp only [minF_t] at h1
      try simp only [minF_f] at h1
      try dsimp only at h1
      refine hK.pure rfl (Mem.le_refl _) ?_
      rfl
    · replace h1 := of_decide_eq_false h1
      try simp only [nc] at h1
      try simp only [minF_t] at h1
      try simp only [minF_f] at h1
      try dsimp only at h1
      exact absurd (by omega) hk

end Go.SX
