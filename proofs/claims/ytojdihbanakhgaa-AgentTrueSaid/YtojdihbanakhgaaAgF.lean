/- Package cake: its check. -/
import Derived.Test.YtojdihbanakhgaaAgB
import Derived.Test.YtojdihbanakhgaaSxFn0
import Derived.Test.YtojdihbanakhgaaSxFn1
import Derived.Test.YtojdihbanakhgaaSxFn2
namespace Go.SX
open Go.Proofs.Try Go.Proofs

/-! ### Reading lists of integers -/

abbrev RI (M : Mem) (a : Option Addr) (n k : Nat) (l : List Int) : Prop := RdL (ElI .i64 I64) 1 M a n k l
abbrev SA (a : Option Addr) (n k : Nat) : AV := .slice (fun _ => a) (fun _ => n) (fun _ => k)
abbrev SV (a : Option Addr) (n k : Nat) : Value := .slice a n k

theorem RdL.idx {M : Mem} {a : Option Addr} {n k : Nat} {l : List Int} (h : RI M a n k l) {i : Nat} (hi : i < l.length) :
    ∃ b o, a = some ⟨b, o, none⟩ ∧ M.cell b (o + i * 1) = some (EV l[i]) ∧ I64 l[i] := by
  obtain ⟨b, o, c, e, _, hc, hm⟩ := h.at (List.getElem?_eq_getElem hi)
  obtain ⟨rfl, hp⟩ := hc
  exact ⟨b, o, e, hm.1, hp⟩

theorem RdL.all {M : Mem} {a : Option Addr} {n k : Nat} {l : List Int} (h : RI M a n k l) : ∀ x ∈ l, I64 x := fun x hx => by
  obtain ⟨i, hi, rfl⟩ := List.getElem_of_mem hx
  obtain ⟨_, _, _, _, hp⟩ := h.idx hi
  exact hp

def minL : List Int → Int
  | [] => 0
  | x :: l => l.foldl min x
def maxL : List Int → Int
  | [] => 0
  | x :: l => l.foldl max x

theorem minL_snoc {l : List Int} (h : l ≠ []) (x : Int) : minL (l ++ [x]) = min (minL l) x := by
  cases l with
  | nil => exact absurd rfl h
  | cons y l => simp [minL]
theorem maxL_snoc {l : List Int} (h : l ≠ []) (x : Int) : maxL (l ++ [x]) = max (maxL l) x := by
  cases l with
  | nil => exact absurd rfl h
  | cons y l => simp [maxL]

theorem take_snoc {α : Type} {l : List α} {i : Nat} (hi : i < l.length) : l.take (i + 1) = l.take i ++ [l[i]] := by
  rw [List.take_add_one, List.getElem?_eq_getElem hi]; rfl

theorem min_spec {l : List Int} {a : Option Addr} {n k : Nat} {M : Mem} (h : RI M a n k l) (hl : 0 < l.length) (hs : l.length ≤ 1000000) : Pure1 83 #[SV a n k] M (EV (minL l)) := by
  have hn := h.len
  refine ok83.pure 200 [SA a n k] rfl (by kernel_rfl) fun c K hK => ?_
  obtain ⟨b, o, ea, _, _⟩ := h.idx hl
  conv => cbv
  refine ⟨fun e => ?_, fun e => ?_⟩
  · replace e := of_decide_eq_true e
    try simp only [nc] at e
    try simp only [minF_t] at e
    try simp only [minF_f] at e
    try dsimp only at e
    omega
  · replace e := of_decide_eq_false e
    try simp only [nc] at e
    try simp only [minF_t] at e
    try simp only [minF_f] at e
    try dsimp only at e
    obtain ⟨b, o, ea, hx, hxi⟩ := h.idx hl
    refine .mk b o 0 ea rfl (by show 0 < n; omega) ?_
    conv => cbv
    refine .mk (EA l[0]) rfl hx ?_
    conv => cbv
    refine OKS.loopH (fun i => 1 ≤ i ∧ i ≤ n) (fun i => [(3, EA (minL (l.take i))), (4, EA i)]) (fun _ => []) (fun _ => M) (fun i => n - i) 1 ⟨by omega, by omega⟩ ?_ ?_
    · have : minL (l.take 1) = l[0] := by
        rw [take_snoc (i := 0) hl]; rfl
      refine ⟨by cbv; simp [this], by cbv, by cbv, Mem.le_refl _⟩
    · intro i ⟨hi1, hi2⟩ ih
      refine ok83.go 100 (by kernel_rfl) ?_
      conv => cbv
      refine ⟨fun e2 => ?_, fun e2 => ?_⟩
      · replace e2 := of_decide_eq_true e2
        try simp only [nc] at e2
        try simp only [minF_t] at e2
        try simp only [minF_f] at e2
        try dsimp only at e2
        have hil : i < l.length := by omega
        obtain ⟨b, o, ea, hx, hxi⟩ := h.idx hil
        refine .mk b o i ea rfl (by show i < n; omega) ?_
        conv => cbv
        refine .mk (EA l[i]) rfl hx ?_
        conv => cbv
        refine .i64 (i + 1 : Nat) (by show (i : Int) + 1 = _; omega) (by omega) (by omega) ?_
        conv => cbv
        refine ih (i + 1) ⟨by omega, by omega⟩ (by omega) _ ?_
        have : minL (l.take (i + 1)) = min (minL (l.take i)) l[i] := by
          rw [take_snoc hil, minL_snoc]
          intro e
          have := congrArg List.length e
          simp only [List.length_take, List.length_nil] at this
          omega
        refine ⟨by cbv; simp [this, minF_f], by cbv, by cbv, Mem.le_refl _⟩
      · replace e2 := of_decide_eq_false e2
        try simp only [nc] at e2
        try simp only [minF_t] at e2
        try simp only [minF_f] at e2
        try dsimp only at e2
        have : i = l.length := by omega
        refine hK.pure rfl (Mem.le_refl _) ?_
        rw [this, List.take_length]
        rfl

theorem max_spec {l : List Int} {a : Option Addr} {n k : Nat} {M : Mem} (h : RI M a n k l) (hl : 0 < l.length) (hs : l.length ≤ 1000000) : Pure1 84 #[SV a n k] M (EV (maxL l)) := by
  have hn := h.len
  refine ok84.pure 200 [SA a n k] rfl (by kernel_rfl) fun c K hK => ?_
  obtain ⟨b, o, ea, _, _⟩ := h.idx hl
  conv => cbv
  refine ⟨fun e => ?_, fun e => ?_⟩
  · replace e := of_decide_eq_true e
    try simp only [nc] at e
    try simp only [minF_t] at e
    try simp only [minF_f] at e
    try dsimp only at e
    omega
  · replace e := of_decide_eq_false e
    try simp only [nc] at e
    try simp only [minF_t] at e
    try simp only [minF_f] at e
    try dsimp only at e
    obtain ⟨b, o, ea, hx, hxi⟩ := h.idx hl
    refine .mk b o 0 ea rfl (by show 0 < n; omega) ?_
    conv => cbv
    refine .mk (EA l[0]) rfl hx ?_
    conv => cbv
    refine OKS.loopH (fun i => 1 ≤ i ∧ i ≤ n) (fun i => [(3, EA (maxL (l.take i))), (4, EA i)]) (fun _ => []) (fun _ => M) (fun i => n - i) 1 ⟨by omega, by omega⟩ ?_ ?_
    · have : maxL (l.take 1) = l[0] := by
        rw [take_snoc (i := 0) hl]; rfl
      refine ⟨by cbv; simp [this], by cbv, by cbv, Mem.le_refl _⟩
    · intro i ⟨hi1, hi2⟩ ih
      refine ok84.go 100 (by kernel_rfl) ?_
      conv => cbv
      refine ⟨fun e2 => ?_, fun e2 => ?_⟩
      · replace e2 := of_decide_eq_true e2
        try simp only [nc] at e2
        try simp only [minF_t] at e2
        try simp only [minF_f] at e2
        try dsimp only at e2
        have hil : i < l.length := by omega
        obtain ⟨b, o, ea, hx, hxi⟩ := h.idx hil
        refine .mk b o i ea rfl (by show i < n; omega) ?_
        conv => cbv
        refine .mk (EA l[i]) rfl hx ?_
        conv => cbv
        refine .i64 (i + 1 : Nat) (by show (i : Int) + 1 = _; omega) (by omega) (by omega) ?_
        conv => cbv
        refine ih (i + 1) ⟨by omega, by omega⟩ (by omega) _ ?_
        have : maxL (l.take (i + 1)) = max (maxL (l.take i)) l[i] := by
          rw [take_snoc hil, maxL_snoc]
          intro e
          have := congrArg List.length e
          simp only [List.length_take, List.length_nil] at this
          omega
        refine ⟨by cbv; simp [this, minF_t], by cbv, by cbv, Mem.le_refl _⟩
      · replace e2 := of_decide_eq_false e2
        try simp only [nc] at e2
        try simp only [minF_t] at e2
        try simp only [minF_f] at e2
        try dsimp only at e2
        have : i = l.length := by omega
        refine hK.pure rfl (Mem.le_refl _) ?_
        rw [this, List.take_length]
        rfl

structure CakeV where
  len : Int
  cuts : List Int
  dens : List Int
  deriving DecidableEq

/-- A cake's parts as they are handed over. -/
structure CP where
  len : Int
  ca : Option Addr
  cn : Nat
  ck : Nat
  da : Option Addr
  dn : Nat
  dk : Nat

abbrev CP.av (p : CP) : AV := .agg [EA p.len, SA p.ca p.cn p.ck, SA p.da p.dn p.dk]
abbrev CP.val (p : CP) : Value := .agg #[EV p.len, SV p.ca p.cn p.ck, SV p.da p.dn p.dk]

structure Ck (M : Mem) (p : CP) (c : CakeV) : Prop where
  len : p.len = c.len
  i64 : I64 c.len
  cuts : RI M p.ca p.cn p.ck c.cuts
  dens : RI M p.da p.dn p.dk c.dens

def incr : List Int → Bool
  | a :: b :: l => decide (a < b) && incr (b :: l)
  | _ => true

theorem incr_iff : ∀ {l : List Int}, incr l = true ↔ ∀ i (h : i + 1 < l.length), l[i] < l[i + 1]
  | [] => by simp [incr]
  | [a] => by simp [incr]
  | a :: b :: l => by
    simp only [incr, Bool.and_eq_true, decide_eq_true_eq, incr_iff (l := b :: l)]
    constructor
    · rintro ⟨h1, h2⟩ i h
      cases i with
      | zero => exact h1
      | succ i => exact h2 i (by simpa using h)
    · intro h
      exact ⟨h 0 (by simp), fun i hi => h (i + 1) (by simpa using hi)⟩

def dens12 (l : List Int) : Bool := !(decide (minL l < 0) || decide (12 < maxL l) || decide (maxL l = 0))

def checkC (c : CakeV) : Int :=
  if 1000 < c.len ∨ 40 < c.cuts.length then 4
  else if c.len < 1 ∨ c.cuts.length < 2 ∨ c.dens.length + 1 ≠ c.cuts.length ∨ c.cuts[0]? ≠ some 0 ∨ c.cuts[c.cuts.length - 1]? ≠ some c.len then 8
  else if incr c.cuts && dens12 c.dens then 0 else 8

theorem checkC_many {c : CakeV} (h : 1000 < c.len ∨ 40 < c.cuts.length) : checkC c = 4 := by rw [checkC, if_pos h]
theorem checkC_bad {c : CakeV} (h : ¬ (1000 < c.len ∨ 40 < c.cuts.length)) (h2 : c.len < 1 ∨ c.cuts.length < 2 ∨ c.dens.length + 1 ≠ c.cuts.length ∨ c.cuts[0]? ≠ some 0 ∨ c.cuts[c.cuts.length - 1]? ≠ some c.len) : checkC c = 8 := by rw [checkC, if_neg h, if_pos h2]
theorem checkC_in {c : CakeV} (h : ¬ (1000 < c.len ∨ 40 < c.cuts.length)) (h2 : ¬ (c.len < 1 ∨ c.cuts.length < 2 ∨ c.dens.length + 1 ≠ c.cuts.length ∨ c.cuts[0]? ≠ some 0 ∨ c.cuts[c.cuts.length - 1]? ≠ some c.len)) : checkC c = if incr c.cuts && dens12 c.dens then 0 else 8 := by rw [checkC, if_neg h, if_neg h2]

theorem cakeCheck_spec {p : CP} {q : CakeV} {M : Mem} (h : Ck M p q) : Pure1 29 #[p.val] M (EV (checkC q)) := by
  obtain ⟨len, ca, cn, ck, da, dn, dk⟩ := p
  obtain ⟨e1, ⟨e2, e3⟩, hc, hd⟩ := h
  simp only at e1 hc hd
  subst e1
  have hcn := hc.len
  have hdn := hd.len
  refine ok29.pure 200 [.agg [EA q.len, SA ca cn ck, SA da dn dk]] rfl (by kernel_rfl) fun c K hK => ?_
  conv => cbv
  refine ⟨fun h1 => ?_, fun h1 => ?_⟩
  · replace h1 := of_decide_eq_true h1
    try simp only [nc] at h1
    try simp only [minF_t] at h1
    try simp only [minF_f] at h1
    try dsimp only at h1
    refine hK.pure rfl (Mem.le_refl _) ?_
    exact congrArg EV (checkC_many (.inl h1)).symm
  · replace h1 := of_decide_eq_false h1
    try simp only [nc] at h1
    try simp only [minF_t] at h1
    try simp only [minF_f] at h1
    try dsimp only at h1
    refine ⟨fun h2 => ?_, fun h2 => ?_⟩
    · replace h2 := of_decide_eq_true h2
      try simp only [nc] at h2
      try simp only [minF_t] at h2
      try simp only [minF_f] at h2
      try dsimp only at h2
      refine hK.pure rfl (Mem.le_refl _) ?_
      exact congrArg EV (checkC_many (.inr (by omega))).symm
    · replace h2 := of_decide_eq_false h2
      try simp only [nc] at h2
      try simp only [minF_t] at h2
      try simp only [minF_f] at h2
      try dsimp only at h2
      have hm : ¬ (1000 < q.len ∨ 40 < q.cuts.length) := by omega
      refine ⟨fun h3 => ?_, fun h3 => ?_⟩
      · replace h3 := of_decide_eq_true h3
        try simp only [nc] at h3
        try simp only [minF_t] at h3
        try simp only [minF_f] at h3
        try dsimp only at h3
        refine hK.pure rfl (Mem.le_refl _) ?_
        exact congrArg EV (checkC_bad hm (by omega)).symm
      · replace h3 := of_decide_eq_false h3
        try simp only [nc] at h3
        try simp only [minF_t] at h3
        try simp only [minF_f] at h3
        try dsimp only at h3
        refine ⟨fun h4 => ?_, fun h4 => ?_⟩
        · replace h4 := of_decide_eq_true h4
          try simp only [nc] at h4
          try simp only [minF_t] at h4
          try simp only [minF_f] at h4
          try dsimp only at h4
          refine hK.pure rfl (Mem.le_refl _) ?_
          exact congrArg EV (checkC_bad hm (by omega)).symm
        · replace h4 := of_decide_eq_false h4
          try simp only [nc] at h4
          try simp only [minF_t] at h4
          try simp only [minF_f] at h4
          try dsimp only at h4
          refine .i64 ((cn - 1 : Nat) : Int) (by show (cn : Int) - 1 = _; omega) (by omega) (by omega) ?_
          conv => cbv
          refine ⟨fun h5 => ?_, fun h5 => ?_⟩
          · replace h5 := of_decide_eq_true h5
            try simp only [nc] at h5
            try simp only [minF_t] at h5
            try simp only [minF_f] at h5
            try dsimp only at h5
            refine hK.pure rfl (Mem.le_refl _) ?_
            exact congrArg EV (checkC_bad hm (by omega)).symm
          · replace h5 := of_decide_eq_false h5
            try simp only [nc] at h5
            try simp only [minF_t] at h5
            try simp only [minF_f] at h5
            try dsimp only at h5
            obtain ⟨b, o, ea, hx, hxi⟩ := hc.idx (i := 0) (by omega)
            refine .mk b o 0 ea rfl (by show 0 < cn; omega) ?_
            conv => cbv
            refine .mk (EA q.cuts[0]) rfl hx ?_
            conv => cbv
            refine ⟨fun h6 => ?_, fun h6 => ?_⟩
            · replace h6 := of_decide_eq_true h6
              try simp only [nc] at h6
              try simp only [minF_t] at h6
              try simp only [minF_f] at h6
              try dsimp only at h6
              refine hK.pure rfl (Mem.le_refl _) ?_
              refine congrArg EV (checkC_bad hm (.inr (.inr (.inr (.inl fun e => ?_))))).symm
              rw [List.getElem?_eq_getElem (by omega)] at e
              exact h6 (Option.some.inj e)
            · replace h6 := of_decide_eq_false h6
              try simp only [nc] at h6
              try simp only [minF_t] at h6
              try simp only [minF_f] at h6
              try dsimp only at h6
              refine .i64 ((cn - 1 : Nat) : Int) (by show (cn : Int) - 1 = _; omega) (by omega) (by omega) ?_
              conv => cbv
              obtain ⟨b, o, ea, hx, hxi⟩ := hc.idx (i := cn - 1) (by omega)
              refine .mk b o (cn - 1) ea rfl (by show cn - 1 < cn; omega) ?_
              conv => cbv
              refine .mk (EA q.cuts[cn - 1]) rfl hx ?_
              conv => cbv
              refine ⟨fun h7 => ?_, fun h7 => ?_⟩
              · replace h7 := of_decide_eq_true h7
                try simp only [nc] at h7
                try simp only [minF_t] at h7
                try simp only [minF_f] at h7
                try dsimp only at h7
                refine hK.pure rfl (Mem.le_refl _) ?_
                refine congrArg EV (checkC_bad hm (.inr (.inr (.inr (.inr fun e => ?_))))).symm
                rw [List.getElem?_eq_getElem (by omega)] at e
                simp only [← hcn] at e
                exact h7 (Option.some.inj e)
              · replace h7 := of_decide_eq_false h7
                try simp only [nc] at h7
                try simp only [minF_t] at h7
                try simp only [minF_f] at h7
                try dsimp only at h7
                have hin : ¬ (q.len < 1 ∨ q.cuts.length < 2 ∨ q.dens.length + 1 ≠ q.cuts.length ∨ q.cuts[0]? ≠ some 0 ∨ q.cuts[q.cuts.length - 1]? ≠ some q.len) := by
                  have k6 : q.cuts[0]? = some 0 := by
                    rw [List.getElem?_eq_getElem (by omega)]
                    exact congrArg some (by omega)
                  have k7 : q.cuts[q.cuts.length - 1]? = some q.len := by
                    rw [List.getElem?_eq_getElem (by omega)]
                    simp only [← hcn]
                    exact congrArg some (by omega)
                  rintro (k | k | k | k | k)
                  · omega
                  · omega
                  · omega
                  · exact k k6
                  · exact k k7
                rw [checkC_in hm hin] at hK
                refine .i64 ((cn - 1 : Nat) : Int) (by show (cn : Int) - 1 = _; omega) (by omega) (by omega) ?_
                conv => cbv
                refine OKS.loopH (fun i => i + 1 ≤ cn ∧ ∀ j (h : j + 1 < q.cuts.length), j < i → q.cuts[j] < q.cuts[j + 1]) (fun i => [(50, EA i)]) (fun _ => []) (fun _ => M) (fun i => cn - i) 0 ⟨by omega, fun j _ h => by omega⟩ ?_ ?_
                · refine ⟨by cbv <;> simp, by cbv <;> simp, by cbv, Mem.le_refl _⟩
                · intro i ⟨hi1, hi2⟩ ih
                  refine ok29.go 100 (by kernel_rfl) ?_
                  conv => cbv
                  refine ⟨fun l1 => ?_, fun l1 => ?_⟩
                  · replace l1 := of_decide_eq_true l1
                    try simp only [nc] at l1
                    try simp only [minF_t] at l1
                    try simp only [minF_f] at l1
                    try dsimp only at l1
                    obtain ⟨b, o, ea, hx, hxi⟩ := hc.idx (i := i) (by omega)
                    refine .mk b o i ea rfl (by show i < cn; omega) ?_
                    conv => cbv
                    refine .mk (EA q.cuts[i]) rfl hx ?_
                    conv => cbv
                    refine .i64 ((i + 1 : Nat) : Int) (by show (i : Int) + 1 = _; omega) (by omega) (by omega) ?_
                    conv => cbv
                    obtain ⟨b', o', ea', hx', hxi'⟩ := hc.idx (i := i + 1) (by omega)
                    refine .mk b' o' (i + 1) ea' rfl (by show i + 1 < cn; omega) ?_
                    conv => cbv
                    refine .mk (EA q.cuts[i + 1]) rfl hx' ?_
                    conv => cbv
                    refine ⟨fun l2 => ?_, fun l2 => ?_⟩
                    · replace l2 := of_decide_eq_true l2
                      try simp only [nc] at l2
                      try simp only [minF_t] at l2
                      try simp only [minF_f] at l2
                      try dsimp only at l2
                      refine hK.pure rfl (Mem.le_refl _) ?_
                      have : ¬ (incr q.cuts && dens12 q.dens) = true := fun e => by
                        rw [Bool.and_eq_true] at e
                        have := incr_iff.1 e.1 i (by omega)
                        omega
                      rw [if_neg this]
                      rfl
                    · replace l2 := of_decide_eq_false l2
                      try simp only [nc] at l2
                      try simp only [minF_t] at l2
                      try simp only [minF_f] at l2
                      try dsimp only at l2
                      refine .i64 ((i + 1 : Nat) : Int) (by show (i : Int) + 1 = _; omega) (by omega) (by omega) ?_
                      conv => cbv
                      refine ih (i + 1) ⟨by omega, fun j hj hji => ?_⟩ (by omega) _ ?_
                      · rcases Nat.lt_or_ge j i with hlt | hge
                        · exact hi2 j hj hlt
                        · have : j = i := by omega
                          subst this
                          omega
                      · refine ⟨by cbv <;> simp, by cbv <;> simp, by cbv, Mem.le_refl _⟩
                  · replace l1 := of_decide_eq_false l1
                    try simp only [nc] at l1
                    try simp only [minF_t] at l1
                    try simp only [minF_f] at l1
                    try dsimp only at l1
                    have hinc : incr q.cuts = true := incr_iff.2 fun j hj => hi2 j hj (by omega)
                    rw [hinc, Bool.true_and] at hK
                    refine CallS.pure (min_spec hd (by omega) (by omega)) rfl (EA (minL q.dens)) rfl rfl ?_
                    conv => cbv
                    refine ⟨fun d1 => ?_, fun d1 => ?_⟩
                    · replace d1 := of_decide_eq_true d1
                      try simp only [nc] at d1
                      try simp only [minF_t] at d1
                      try simp only [minF_f] at d1
                      try dsimp only at d1
                      refine hK.pure rfl (Mem.le_refl _) ?_
                      simp [dens12, d1]
                      rfl
                    · replace d1 := of_decide_eq_false d1
                      try simp only [nc] at d1
                      try simp only [minF_t] at d1
                      try simp only [minF_f] at d1
                      try dsimp only at d1
                      refine CallS.pure (max_spec hd (by omega) (by omega)) rfl (EA (maxL q.dens)) rfl rfl ?_
                      conv => cbv
                      refine ⟨fun d2 => ?_, fun d2 => ?_⟩
                      · replace d2 := of_decide_eq_true d2
                        try simp only [nc] at d2
                        try simp only [minF_t] at d2
                        try simp only [minF_f] at d2
                        try dsimp only at d2
                        refine hK.pure rfl (Mem.le_refl _) ?_
                        simp [dens12, d1, d2]
                        rfl
                      · replace d2 := of_decide_eq_false d2
                        try simp only [nc] at d2
                        try simp only [minF_t] at d2
                        try simp only [minF_f] at d2
                        try dsimp only at d2
                        refine CallS.pure (max_spec hd (by omega) (by omega)) rfl (EA (maxL q.dens)) rfl rfl ?_
                        conv => cbv
                        refine ⟨fun d3 => ?_, fun d3 => ?_⟩
                        · replace d3 := of_decide_eq_true d3
                          try simp only [nc] at d3
                          try simp only [minF_t] at d3
                          try simp only [minF_f] at d3
                          try dsimp only at d3
                          refine hK.pure rfl (Mem.le_refl _) ?_
                          simp [dens12, d1, d3]
                          rfl
                        · replace d3 := of_decide_eq_false d3
                          try simp only [nc] at d3
                          try simp only [minF_t] at d3
                          try simp only [minF_f] at d3
                          try dsimp only at d3
                          refine hK.pure rfl (Mem.le_refl _) ?_
                          simp [dens12, d1, d2, d3]
                          rfl

end Go.SX
