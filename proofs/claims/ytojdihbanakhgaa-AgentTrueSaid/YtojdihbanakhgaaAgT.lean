/- Reference: cakes and desks are checked as the program checks them. -/
import Derived.Test.YtojdihbanakhgaaListA
namespace Go.SX
open Go.Proofs.Try Go.Proofs

/-! ### Package parcenerref02: Great, Check, Same -/

def greatC (c : CakeV) : Bool := decide (60 < c.cuts.length) || decide (60 < c.dens.length)

theorem great_spec {p : CP} {q : CakeV} {M : Mem} (h : Ck M p q) : Pure1 93 #[p.val] M (.bool (greatC q)) := by
  obtain ⟨len, ca, cn, ck, da, dn, dk⟩ := p
  obtain ⟨e1, _, hc, hd⟩ := h
  simp only at e1 hc hd
  subst e1
  have hcn := hc.len
  have hdn := hd.len
  refine ok93.pure 200 [.agg [EA q.len, SA ca cn ck, SA da dn dk]] rfl (by kernel_rfl) fun c K hK => ?_
  conv => cbv
  refine ⟨fun h1 => ?_, fun h1 => ?_⟩
  · replace h1 := of_decide_eq_true h1
    try simp only [nc] at h1
    try simp only [minF_t] at h1
    try simp only [minF_f] at h1
    try dsimp only at h1
    refine hK.pure rfl (Mem.le_refl _) ?_
    have e : greatC q = true := by rw [greatC, decide_eq_true (by omega)]; rfl
    rw [e]
    rfl
  · replace h1 := of_decide_eq_false h1
    try simp only [nc] at h1
    try simp only [minF_t] at h1
    try simp only [minF_f] at h1
    try dsimp only at h1
    refine hK.pure rfl (Mem.le_refl _) ?_
    have e : greatC q = decide ((60 : Int) < (dn : Int)) := by
      rw [greatC, decide_eq_false (by omega), Bool.false_or]
      exact decide_eq_decide.2 (by omega)
    rw [e]
    rfl

theorem minL_mem : ∀ {l : List Int}, l ≠ [] → minL l ∈ l
  | x :: l, _ => by
    have : ∀ (l : List Int) (x : Int), l.foldl min x = x ∨ l.foldl min x ∈ l := by
      intro l
      induction l with
      | nil => intro x; exact .inl rfl
      | cons y l ih =>
        intro x
        simp only [List.foldl_cons]
        rcases ih (min x y) with h | h
        · rcases Int.le_total x y with k | k
          · left; rw [h]; omega
          · right; rw [h, show min x y = y by omega]; exact List.mem_cons_self
        · right; exact List.mem_cons_of_mem _ h
    rcases this l x with h | h
    · show l.foldl min x ∈ x :: l
      rw [h]; exact List.mem_cons_self
    · exact List.mem_cons_of_mem _ h
theorem maxL_mem : ∀ {l : List Int}, l ≠ [] → maxL l ∈ l
  | x :: l, _ => by
    have : ∀ (l : List Int) (x : Int), l.foldl max x = x ∨ l.foldl max x ∈ l := by
      intro l
      induction l with
      | nil => intro x; exact .inl rfl
      | cons y l ih =>
        intro x
        simp only [List.foldl_cons]
        rcases ih (max x y) with h | h
        · rcases Int.le_total x y with k | k
          · right; rw [h, show max x y = y by omega]; exact List.mem_cons_self
          · left; rw [h]; omega
        · right; exact List.mem_cons_of_mem _ h
    rcases this l x with h | h
    · show l.foldl max x ∈ x :: l
      rw [h]; exact List.mem_cons_self
    · exact List.mem_cons_of_mem _ h

/-- Some density is greater than 0. -/
def posL (l : List Int) : Bool := l.any fun d => decide (0 < d)

theorem dens12_of {l : List Int} (h : ∀ d ∈ l, 0 ≤ d ∧ d ≤ 12) (hl : l ≠ []) : dens12 l = posL l := by
  have h1 := h _ (minL_mem hl)
  have h2 := h _ (maxL_mem hl)
  cases hp : posL l with
  | true =>
    obtain ⟨d, hd, hpos⟩ := List.any_eq_true.1 hp
    have := le_maxL hd
    have hpos := of_decide_eq_true hpos
    simp [dens12]; omega
  | false =>
    have : ¬ 0 < maxL l := fun k => by
      have : posL l = true := List.any_eq_true.2 ⟨_, maxL_mem hl, decide_eq_true k⟩
      rw [hp] at this; cases this
    simp [dens12]; omega
theorem dens12_bad {l : List Int} {d : Int} (hd : d ∈ l) (h : d < 0 ∨ 12 < d) : dens12 l = false := by
  have h1 := minL_le hd
  have h2 := le_maxL hd
  simp [dens12]; omega

set_option maxHeartbeats 1000000 in
set_option maxRecDepth 100000 in
theorem refCheck_spec {p : CP} {q : CakeV} {M : Mem} (h : Ck M p q) : Pure1 94 #[p.val] M (EV (checkC q)) := by
  obtain ⟨len, ca, cn, ck, da, dn, dk⟩ := p
  obtain ⟨e1, ⟨e2, e3⟩, hc, hd⟩ := h
  simp only at e1 hc hd
  subst e1
  have hcn := hc.len
  have hdn := hd.len
  refine ok94.pure 300 [.agg [EA q.len, SA ca cn ck, SA da dn dk]] rfl (by kernel_rfl) fun c K hK => ?_
  conv => cbv
  refine ⟨fun h1 => ?_, fun h1 => ?_⟩
  · replace h1 := of_decide_eq_true h1
    try simp only [nc] at h1
    try simp only [minF_t] at h1
    try simp only [minF_f] at h1
    try dsimp only at h1
    refine hK.pure rfl (Mem.le_refl _) ?_
    exact congrArg EV (checkC_many (.inl h1)).symm
  · replace h1 := of_decide_eq_false h1
    try simp only [nc] at h1
    try simp only [minF_t] at h1
    try simp only [minF_f] at h1
    try dsimp only at h1
    refine ⟨fun h2 => ?_, fun h2 => ?_⟩
    · replace h2 := of_decide_eq_true h2
      try simp only [nc] at h2
      try simp only [minF_t] at h2
      try simp only [minF_f] at h2
      try dsimp only at h2
      refine hK.pure rfl (Mem.le_refl _) ?_
      exact congrArg EV (checkC_many (.inr (by omega))).symm
    · replace h2 := of_decide_eq_false h2
      try simp only [nc] at h2
      try simp only [minF_t] at h2
      try simp only [minF_f] at h2
      try dsimp only at h2
      have hm : ¬ (1000 < q.len ∨ 40 < q.cuts.length) := by omega
      refine ⟨fun h3 => ?_, fun h3 => ?_⟩
      · replace h3 := of_decide_eq_true h3
        try simp only [nc] at h3
        try simp only [minF_t] at h3
        try simp only [minF_f] at h3
        try dsimp only at h3
        refine hK.pure rfl (Mem.le_refl _) ?_
        exact congrArg EV (checkC_bad hm (by omega)).symm
      · replace h3 := of_decide_eq_false h3
        try simp only [nc] at h3
        try simp only [minF_t] at h3
        try simp only [minF_f] at h3
        try dsimp only at h3
        refine ⟨fun h4 => ?_, fun h4 => ?_⟩
        · replace h4 := of_decide_eq_true h4
          try simp only [nc] at h4
          try simp only [minF_t] at h4
          try simp only [minF_f] at h4
          try dsimp only at h4
          refine hK.pure rfl (Mem.le_refl _) ?_
          exact congrArg EV (checkC_bad hm (by omega)).symm
        · replace h4 := of_decide_eq_false h4
          try simp only [nc] at h4
          try simp only [minF_t] at h4
          try simp only [minF_f] at h4
          try dsimp only at h4
          refine .i64 ((cn - 1 : Nat) : Int) (by show (cn : Int) - 1 = _; omega) (by omega) (by omega) ?_
          conv => cbv
          refine ⟨fun h5 => ?_, fun h5 => ?_⟩
          · replace h5 := of_decide_eq_true h5
            try simp only [nc] at h5
            try simp only [minF_t] at h5
            try simp only [minF_f] at h5
            try dsimp only at h5
            refine hK.pure rfl (Mem.le_refl _) ?_
            exact congrArg EV (checkC_bad hm (by omega)).symm
          · replace h5 := of_decide_eq_false h5
            try simp only [nc] at h5
            try simp only [minF_t] at h5
            try simp only [minF_f] at h5
            try dsimp only at h5
            obtain ⟨b, o, ea, hx, hxi⟩ := hc.idx (i := 0) (by omega)
            refine .mk b o 0 ea rfl (by show 0 < cn; omega) ?_
            conv => cbv
            refine .mk (EA q.cuts[0]) rfl hx ?_
            conv => cbv
            refine ⟨fun h6 => ?_, fun h6 => ?_⟩
            · replace h6 := of_decide_eq_true h6
              try simp only [nc] at h6
              try simp only [minF_t] at h6
              try simp only [minF_f] at h6
              try dsimp only at h6
              refine hK.pure rfl (Mem.le_refl _) ?_
              refine congrArg EV (checkC_bad hm (.inr (.inr (.inr (.inl fun e => ?_))))).symm
              rw [List.getElem?_eq_getElem (by omega)] at e
              exact h6 (Option.some.inj e)
            · replace h6 := of_decide_eq_false h6
              try simp only [nc] at h6
              try simp only [minF_t] at h6
              try simp only [minF_f] at h6
              try dsimp only at h6
              refine .i64 ((cn - 1 : Nat) : Int) (by show (cn : Int) - 1 = _; omega) (by omega) (by omega) ?_
              conv => cbv
              obtain ⟨b, o, ea, hx, hxi⟩ := hc.idx (i := cn - 1) (by omega)
              refine .mk b o (cn - 1) ea rfl (by show cn - 1 < cn; omega) ?_
              conv => cbv
              refine .mk (EA q.cuts[cn - 1]) rfl hx ?_
              conv => cbv
              refine ⟨fun h7 => ?_, fun h7 => ?_⟩
              · replace h7 := of_decide_eq_true h7
                try simp only [nc] at h7
                try simp only [minF_t] at h7
                try simp only [minF_f] at h7
                try dsimp only at h7
                refine hK.pure rfl (Mem.le_refl _) ?_
                refine congrArg EV (checkC_bad hm (.inr (.inr (.inr (.inr fun e => ?_))))).symm
                rw [List.getElem?_eq_getElem (by omega)] at e
                simp only [← hcn] at e
                exact h7 (Option.some.inj e)
              · replace h7 := of_decide_eq_false h7
                try simp only [nc] at h7
                try simp only [minF_t] at h7
                try simp only [minF_f] at h7
                try dsimp only at h7
                have hin : ¬ (q.len < 1 ∨ q.cuts.length < 2 ∨ q.dens.length + 1 ≠ q.cuts.length ∨ q.cuts[0]? ≠ some 0 ∨ q.cuts[q.cuts.length - 1]? ≠ some q.len) := by
                  have k6 : q.cuts[0]? = some 0 := by
                    rw [List.getElem?_eq_getElem (by omega)]
                    exact congrArg some (by omega)
                  have k7 : q.cuts[q.cuts.length - 1]? = some q.len := by
                    rw [List.getElem?_eq_getElem (by omega)]
                    simp only [← hcn]
                    exact congrArg some (by omega)
                  rintro (k | k | k | k | k)
                  · omega
                  · omega
                  · omega
                  · exact k k6
                  · exact k k7
                rw [checkC_in hm hin] at hK
                refine OKS.loopH (fun i => i ≤ dn ∧ (∀ j (h : j + 1 < q.cuts.length), j < i → q.cuts[j] < q.cuts[j + 1]) ∧ ∀ j (h : j < q.dens.length), j < i → 0 ≤ q.dens[j] ∧ q.dens[j] ≤ 12)
                  (fun i => [(4, EA i), (3, .sb fun _ => posL (q.dens.take i))]) (fun _ => []) (fun _ => M) (fun i => dn - i) 0 ⟨by omega, fun j _ h => by omega, fun j _ h => by omega⟩ ?_ ?_
                · refine ⟨by cbv <;> simp [posL], by cbv <;> simp, by cbv, Mem.le_refl _⟩
                · intro i ⟨hi1, hi2, hi3⟩ ih
                  refine ok94.go 100 (by kernel_rfl) ?_
                  conv => cbv
                  refine ⟨fun l1 => ?_, fun l1 => ?_⟩
                  · replace l1 := of_decide_eq_true l1
                    try simp only [nc] at l1
                    try simp only [minF_t] at l1
                    try simp only [minF_f] at l1
                    try dsimp only at l1
                    refine .i64 ((i + 1 : Nat) : Int) (by show (i : Int) + 1 = _; omega) (by omega) (by omega) ?_
                    conv => cbv
                    obtain ⟨b', o', ea', hx', hxi'⟩ := hc.idx (i := i + 1) (by omega)
                    refine .mk b' o' (i + 1) ea' rfl (by show i + 1 < cn; omega) ?_
                    conv => cbv
                    refine .mk (EA q.cuts[i + 1]) rfl hx' ?_
                    conv => cbv
                    obtain ⟨b, o, ea, hx, hxi⟩ := hc.idx (i := i) (by omega)
                    refine .mk b o i ea rfl (by show i < cn; omega) ?_
                    conv => cbv
                    refine .mk (EA q.cuts[i]) rfl hx ?_
                    conv => cbv
                    refine ⟨fun l2 => ?_, fun l2 => ?_⟩
                    · replace l2 := of_decide_eq_true l2
                      try simp only [nc] at l2
                      try simp only [minF_t] at l2
                      try simp only [minF_f] at l2
                      try dsimp only at l2
                      refine hK.pure rfl (Mem.le_refl _) ?_
                      have : ¬ (incr q.cuts && dens12 q.dens) = true := fun e => by
                        rw [Bool.and_eq_true] at e
                        have := incr_iff.1 e.1 i (by omega)
                        omega
                      rw [if_neg this]
                      rfl
                    · replace l2 := of_decide_eq_false l2
                      try simp only [nc] at l2
                      try simp only [minF_t] at l2
                      try simp only [minF_f] at l2
                      try dsimp only at l2
                      obtain ⟨bd, od, ead, hxd, hxid⟩ := hd.idx (i := i) (by omega)
                      refine .mk bd od i ead rfl (by show i < dn; omega) ?_
                      conv => cbv
                      refine .mk (EA q.dens[i]) rfl hxd ?_
                      conv => cbv
                      refine ⟨fun l3 => ?_, fun l3 => ?_⟩
                      · replace l3 := of_decide_eq_true l3
                        try simp only [nc] at l3
                        try simp only [minF_t] at l3
                        try simp only [minF_f] at l3
                        try dsimp only at l3
                        refine hK.pure rfl (Mem.le_refl _) ?_
                        have := dens12_bad (List.getElem_mem (show i < q.dens.length by omega)) (.inl l3)
                        rw [this, Bool.and_false, if_neg (by simp)]
                        rfl
                      · replace l3 := of_decide_eq_false l3
                        try simp only [nc] at l3
                        try simp only [minF_t] at l3
                        try simp only [minF_f] at l3
                        try dsimp only at l3
                        refine .mk bd od i ead rfl (by show i < dn; omega) ?_
                        conv => cbv
                        refine .mk (EA q.dens[i]) rfl hxd ?_
                        conv => cbv
                        refine ⟨fun l4 => ?_, fun l4 => ?_⟩
                        · replace l4 := of_decide_eq_true l4
                          try simp only [nc] at l4
                          try simp only [minF_t] at l4
                          try simp only [minF_f] at l4
                          try dsimp only at l4
                          refine hK.pure rfl (Mem.le_refl _) ?_
                          have := dens12_bad (List.getElem_mem (show i < q.dens.length by omega)) (.inr l4)
                          rw [this, Bool.and_false, if_neg (by simp)]
                          rfl
                        · replace l4 := of_decide_eq_false l4
                          try simp only [nc] at l4
                          try simp only [minF_t] at l4
                          try simp only [minF_f] at l4
                          try dsimp only at l4
                          have hsn : posL (q.dens.take (i + 1)) = (posL (q.dens.take i) || decide (0 < q.dens[i])) := by
                            rw [take_snoc (show i < q.dens.length by omega), posL, List.any_append]
                            simp [posL]
                          have hgo : ∀ j (h : j + 1 < q.cuts.length), j < i + 1 → q.cuts[j] < q.cuts[j + 1] := fun j hj hji => by
                            rcases Nat.lt_or_ge j i with hlt | hge
                            · exact hi2 j hj hlt
                            · have : j = i := by omega
                              subst this
                              omega
                          have hgo2 : ∀ j (h : j < q.dens.length), j < i + 1 → 0 ≤ q.dens[j] ∧ q.dens[j] ≤ 12 := fun j hj hji => by
                            rcases Nat.lt_or_ge j i with hlt | hge
                            · exact hi3 j hj hlt
                            · have : j = i := by omega
                              subst this
                              omega
                          refine ⟨fun l5 => ?_, fun l5 => ?_⟩
                          · replace l5 : posL (q.dens.take i) = true := l5
                            rw [l5, Bool.true_or] at hsn
                            refine .i64 ((i + 1 : Nat) : Int) (by show (i : Int) + 1 = _; omega) (by omega) (by omega) ?_
                            conv => cbv
                            refine ih (i + 1) ⟨by omega, hgo, hgo2⟩ (by omega) _ ?_
                            refine ⟨by cbv <;> simp [hsn], by cbv <;> simp, by cbv, Mem.le_refl _⟩
                          · replace l5 : posL (q.dens.take i) = false := l5
                            rw [l5, Bool.false_or] at hsn
                            refine .mk bd od i ead rfl (by show i < dn; omega) ?_
                            conv => cbv
                            refine .mk (EA q.dens[i]) rfl hxd ?_
                            conv => cbv
                            refine .i64 ((i + 1 : Nat) : Int) (by show (i : Int) + 1 = _; omega) (by omega) (by omega) ?_
                            conv => cbv
                            refine ih (i + 1) ⟨by omega, hgo, hgo2⟩ (by omega) _ ?_
                            refine ⟨by cbv <;> simp [hsn], by cbv <;> simp, by cbv, Mem.le_refl _⟩
                  · replace l1 := of_decide_eq_false l1
                    try simp only [nc] at l1
                    try simp only [minF_t] at l1
                    try simp only [minF_f] at l1
                    try dsimp only at l1
                    have hinc : incr q.cuts = true := incr_iff.2 fun j hj => hi2 j hj (by omega)
                    have hall : ∀ d ∈ q.dens, 0 ≤ d ∧ d ≤ 12 := fun d hd => by
                      obtain ⟨j, hj, rfl⟩ := List.getElem_of_mem hd
                      exact hi3 j hj (by omega)
                    have hne : q.dens ≠ [] := fun e => by
                      have := congrArg List.length e
                      simp only [List.length_nil] at this
                      omega
                    rw [hinc, Bool.true_and, dens12_of hall hne] at hK
                    have htk : q.dens.take i = q.dens := List.take_of_length_le (by omega)
                    rw [htk]
                    refine ⟨fun l5 => ?_, fun l5 => ?_⟩
                    · replace l5 : (!posL q.dens) = true := l5
                      refine hK.pure rfl (Mem.le_refl _) ?_
                      rw [if_neg (by simpa using l5)]
                      rfl
                    · replace l5 : (!posL q.dens) = false := l5
                      refine hK.pure rfl (Mem.le_refl _) ?_
                      rw [if_pos (by simpa using l5)]
                      rfl

set_option maxRecDepth 100000 in
theorem refDesk_spec {cs : List CakeV} {M : Mem} {ca qa : Option Addr} {cn ck qn qk : Nat} (h : RC M ca cn ck cs) : Pure1 43 #[DV ca cn ck qa qn qk] M (EV (deskC cs qn)) := by
  have hn := h.len
  refine ok43.pure 300 [DA ca cn ck qa qn qk] rfl (by kernel_rfl) fun c K hK => ?_
  conv => cbv
  refine ⟨fun h1 => ?_, fun h1 => ?_⟩
  · replace h1 := of_decide_eq_true h1
    try simp only [nc] at h1
    try simp only [minF_t] at h1
    try simp only [minF_f] at h1
    try dsimp only at h1
    refine hK.pure rfl (Mem.le_refl _) ?_
    rw [deskC_many (.inl (by omega))]
    rfl
  · replace h1 := of_decide_eq_false h1
    try simp only [nc] at h1
    try simp only [minF_t] at h1
    try simp only [minF_f] at h1
    try dsimp only at h1
    refine ⟨fun h2 => ?_, fun h2 => ?_⟩
    · replace h2 := of_decide_eq_true h2
      try simp only [nc] at h2
      try simp only [minF_t] at h2
      try simp only [minF_f] at h2
      try dsimp only at h2
      refine hK.pure rfl (Mem.le_refl _) ?_
      rw [deskC_many (.inr (by omega))]
      rfl
    · replace h2 := of_decide_eq_false h2
      try simp only [nc] at h2
      try simp only [minF_t] at h2
      try simp only [minF_f] at h2
      try dsimp only at h2
      refine ⟨fun h3 => ?_, fun h3 => ?_⟩
      · replace h3 := of_decide_eq_true h3
        try simp only [nc] at h3
        try simp only [minF_t] at h3
        try simp only [minF_f] at h3
        try dsimp only at h3
        refine hK.pure rfl (Mem.le_refl _) ?_
        have : cs = [] := List.eq_nil_of_length_eq_zero (by omega)
        subst this
        rw [deskC_nil (by omega)]
        rfl
      · replace h3 := of_decide_eq_false h3
        try simp only [nc] at h3
        try simp only [minF_t] at h3
        try simp only [minF_f] at h3
        try dsimp only at h3
        rw [deskC_ne (by omega) (by omega)] at hK
        refine OKS.loopH (fun i => i ≤ cn ∧ firstE (cs.drop i) = firstE cs) (fun i => [(3, EA i)]) (fun _ => []) (fun _ => M) (fun i => cn - i) 0 ⟨by omega, by simp⟩ ?_ ?_
        · refine ⟨by cbv <;> simp, by cbv <;> simp, by cbv, Mem.le_refl _⟩
        · intro i ⟨hi1, hi2⟩ ih
          refine ok43.go 100 (by kernel_rfl) ?_
          conv => cbv
          refine ⟨fun l1 => ?_, fun l1 => ?_⟩
          · replace l1 := of_decide_eq_true l1
            try simp only [nc] at l1
            try simp only [minF_t] at l1
            try simp only [minF_f] at l1
            try dsimp only at l1
            obtain ⟨b, o, p, ea, hp, hck⟩ := h.cake (i := i) (by omega)
            refine .mk b o i ea rfl (by show i < cn; omega) ?_
            conv => cbv
            refine .mk p.avs rfl rfl hp ?_
            conv => cbv
            refine CallS.pure (refCheck_spec hck) rfl (EA (checkC cs[i])) rfl rfl ?_
            conv => cbv
            rw [firstE_cons (by omega)] at hi2
            refine ⟨fun l2 => ?_, fun l2 => ?_⟩
            · replace l2 := of_decide_eq_true l2
              try simp only [nc] at l2
              try simp only [minF_t] at l2
              try simp only [minF_f] at l2
              try dsimp only at l2
              refine .mk b o i ea rfl (by show i < cn; omega) ?_
              conv => cbv
              refine .mk p.avs rfl rfl hp ?_
              conv => cbv
              refine CallS.pure (refCheck_spec hck) rfl (EA (checkC cs[i])) rfl rfl ?_
              conv => cbv
              refine hK.pure rfl (Mem.le_refl _) ?_
              rw [← hi2, if_pos l2, if_pos l2]
              rfl
            · replace l2 := of_decide_eq_false l2
              try simp only [nc] at l2
              try simp only [minF_t] at l2
              try simp only [minF_f] at l2
              try dsimp only at l2
              refine .i64 ((i + 1 : Nat) : Int) (by show (i : Int) + 1 = _; omega) (by omega) (by omega) ?_
              conv => cbv
              refine ih (i + 1) ⟨by omega, by rw [← hi2, if_neg l2]⟩ (by omega) _ ?_
              refine ⟨by cbv <;> simp, by cbv <;> simp, by cbv, Mem.le_refl _⟩
          · replace l1 := of_decide_eq_false l1
            try simp only [nc] at l1
            try simp only [minF_t] at l1
            try simp only [minF_f] at l1
            try dsimp only at l1
            have e0 : firstE cs = 0 := by
              have e1 : cs.drop i = [] := List.drop_eq_nil_of_le (by omega)
              rw [← hi2, e1]
              rfl
            rw [e0, if_neg (by omega)] at hK
            refine OKS.loopH (fun i => i ≤ cn ∧ ∀ j (hj : j < cs.length), j < i → cs[j].len = cs[0].len) (fun i => [(4, EA i)]) (fun _ => []) (fun _ => M) (fun i => cn - i) 0 ⟨by omega, fun j _ h => by omega⟩ ?_ ?_
            · refine ⟨by cbv <;> simp, by cbv <;> simp, by cbv, Mem.le_refl _⟩
            · intro i ⟨hi1, hi2⟩ ih
              refine ok43.go 100 (by kernel_rfl) ?_
              conv => cbv
              refine ⟨fun l1 => ?_, fun l1 => ?_⟩
              · replace l1 := of_decide_eq_true l1
                try simp only [nc] at l1
                try simp only [minF_t] at l1
                try simp only [minF_f] at l1
                try dsimp only at l1
                obtain ⟨b, o, p, ea, hp, hck⟩ := h.cake (i := i) (by omega)
                obtain ⟨b0, o0, p0, ea0, hp0, hck0⟩ := h.cake (i := 0) (by omega)
                refine .mk b o i ea rfl (by show i < cn; omega) ?_
                conv => cbv
                refine .mk (EA p.len) rfl hp.1 ?_
                conv => cbv
                refine .mk b0 o0 0 ea0 rfl (by show 0 < cn; omega) ?_
                conv => cbv
                refine .mk (EA p0.len) rfl hp0.1 ?_
                conv => cbv
                have q1 := hck.len
                have q2 := hck0.len
                refine ⟨fun l2 => ?_, fun l2 => ?_⟩
                · replace l2 := of_decide_eq_true l2
                  try simp only [nc] at l2
                  try simp only [minF_t] at l2
                  try simp only [minF_f] at l2
                  try dsimp only at l2
                  refine hK.pure rfl (Mem.le_refl _) ?_
                  have : ¬ (cs.all (fun c => decide (c.len = cs[0].len)) = true) := fun e => by
                    have := List.all_eq_true.1 e _ (List.getElem_mem (show i < cs.length by omega))
                    simp at this
                    omega
                  rw [if_neg this]
                  rfl
                · replace l2 := of_decide_eq_false l2
                  try simp only [nc] at l2
                  try simp only [minF_t] at l2
                  try simp only [minF_f] at l2
                  try dsimp only at l2
                  refine .i64 ((i + 1 : Nat) : Int) (by show (i : Int) + 1 = _; omega) (by omega) (by omega) ?_
                  conv => cbv
                  refine ih (i + 1) ⟨by omega, fun j hj hji => ?_⟩ (by omega) _ ?_
                  · rcases Nat.lt_or_ge j i with hlt | hge
                    · exact hi2 j hj hlt
                    · have : j = i := by omega
                      subst this
                      omega
                  · refine ⟨by cbv <;> simp, by cbv <;> simp, by cbv, Mem.le_refl _⟩
              · replace l1 := of_decide_eq_false l1
                try simp only [nc] at l1
                try simp only [minF_t] at l1
                try simp only [minF_f] at l1
                try dsimp only at l1
                refine hK.pure rfl (Mem.le_refl _) ?_
                have : cs.all (fun c => decide (c.len = cs[0].len)) = true := List.all_eq_true.2 fun x hx => by
                  obtain ⟨j, hj, rfl⟩ := List.getElem_of_mem hx
                  simpa using hi2 j hj (by omega)
                rw [if_pos this]
                rfl

def greatL (cs : List CakeV) : Bool := cs.any greatC || decide (10 < cs.length)

theorem greatCakes_spec {cs : List CakeV} {M : Mem} {ca : Option Addr} {cn ck : Nat} (h : RC M ca cn ck cs) (hb : cn ≤ 9223372036854775807) : Pure1 41 #[SV ca cn ck] M (.bool (greatL cs)) := by
  have hn := h.len
  refine ok41.pure 300 [SA ca cn ck] rfl (by kernel_rfl) fun c K hK => ?_
  conv => cbv
  refine OKS.loopH (fun i => i ≤ cn ∧ ∀ j (hj : j < cs.length), j < i → greatC cs[j] = false) (fun i => [(3, EA i)]) (fun _ => []) (fun _ => M) (fun i => cn - i) 0 ⟨by omega, fun j _ h => by omega⟩ ?_ ?_
  · refine ⟨by cbv <;> simp, by cbv <;> simp, by cbv, Mem.le_refl _⟩
  · intro i ⟨hi1, hi2⟩ ih
    refine ok41.go 100 (by kernel_rfl) ?_
    conv => cbv
    refine ⟨fun l1 => ?_, fun l1 => ?_⟩
    · replace l1 := of_decide_eq_true l1
      try simp only [nc] at l1
      try simp only [minF_t] at l1
      try simp only [minF_f] at l1
      try dsimp only at l1
      obtain ⟨b, o, p, ea, hp, hck⟩ := h.cake (i := i) (by omega)
      refine .mk b o i ea rfl (by show i < cn; omega) ?_
      conv => cbv
      refine .mk p.avs rfl rfl hp ?_
      conv => cbv
      refine CallS.pure (great_spec hck) rfl (.sb fun _ => greatC cs[i]) rfl rfl ?_
      conv => cbv
      refine ⟨fun l2 => ?_, fun l2 => ?_⟩
      · replace l2 : greatC cs[i] = true := l2
        refine hK.pure rfl (Mem.le_refl _) ?_
        have : cs.any greatC = true := List.any_eq_true.2 ⟨_, List.getElem_mem (show i < cs.length by omega), l2⟩
        rw [greatL, this]
        rfl
      · replace l2 : greatC cs[i] = false := l2
        refine .i64 ((i + 1 : Nat) : Int) (by show (i : Int) + 1 = _; omega) (by omega) (by omega) ?_
        conv => cbv
        refine ih (i + 1) ⟨by omega, fun j hj hji => ?_⟩ (by omega) _ ?_
        · rcases Nat.lt_or_ge j i with hlt | hge
          · exact hi2 j hj hlt
          · have : j = i := by omega
            subst this
            exact l2
        · refine ⟨by cbv <;> simp, by cbv <;> simp, by cbv, Mem.le_refl _⟩
    · replace l1 := of_decide_eq_false l1
      try simp only [nc] at l1
      try simp only [minF_t] at l1
      try simp only [minF_f] at l1
      try dsimp only at l1
      refine hK.pure rfl (Mem.le_refl _) ?_
      have : cs.any greatC = false := by
        cases hc : cs.any greatC with
        | false => rfl
        | true =>
          obtain ⟨x, hx, hg⟩ := List.any_eq_true.1 hc
          obtain ⟨j, hj, rfl⟩ := List.getElem_of_mem hx
          rw [hi2 j hj (by omega)] at hg
          cases hg
      have e : greatL cs = decide ((10 : Int) < (cn : Int)) := by
        rw [greatL, this, Bool.false_or]
        exact decide_eq_decide.2 (by omega)
      rw [e]
      rfl

end Go.SX
