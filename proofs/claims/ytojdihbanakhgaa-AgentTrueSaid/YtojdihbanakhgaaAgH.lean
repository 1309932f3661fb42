/- Package cake: the value. -/
import Derived.Test.YtojdihbanakhgaaAgG
namespace Go.SX
open Go.Proofs.Try Go.Proofs

section
variable {b sum sat_ en : R} {e d : Int} {l : List (Int × Int)}

theorem valL_skip (hen : (if lessC b (R.of e) then b else R.of e) = en) (h : d = 0 ∨ lessC sat_ en = false) : valL b ((e, d) :: l) sum sat_ = valL b l sum (if lessC sat_ en then en else sat_) := by
  simp only [valL, hen, if_pos h]
theorem valL_err1 (hen : (if lessC b (R.of e) then b else R.of e) = en) (h : ¬ (d = 0 ∨ lessC sat_ en = false)) (h1 : (subR en sat_).2 ≠ 0) : valL b ((e, d) :: l) sum sat_ = (R.zero, (subR en sat_).2) := by
  simp only [valL, hen]
  rw [if_neg h, if_pos h1]
theorem valL_err2 (hen : (if lessC b (R.of e) then b else R.of e) = en) (h : ¬ (d = 0 ∨ lessC sat_ en = false)) (h1 : ¬ (subR en sat_).2 ≠ 0) (h2 : (mulR (subR en sat_).1 (R.of d)).2 ≠ 0) :
    valL b ((e, d) :: l) sum sat_ = (R.zero, (mulR (subR en sat_).1 (R.of d)).2) := by
  simp only [valL, hen]
  rw [if_neg h, if_neg h1, if_pos h2]
theorem valL_err3 (hen : (if lessC b (R.of e) then b else R.of e) = en) (h : ¬ (d = 0 ∨ lessC sat_ en = false)) (h1 : ¬ (subR en sat_).2 ≠ 0) (h2 : ¬ (mulR (subR en sat_).1 (R.of d)).2 ≠ 0) (h3 : (addR sum (mulR (subR en sat_).1 (R.of d)).1).2 ≠ 0) :
    valL b ((e, d) :: l) sum sat_ = (R.zero, (addR sum (mulR (subR en sat_).1 (R.of d)).1).2) := by
  simp only [valL, hen]
  rw [if_neg h, if_neg h1, if_neg h2, if_pos h3]
theorem valL_next (hen : (if lessC b (R.of e) then b else R.of e) = en) (h : ¬ (d = 0 ∨ lessC sat_ en = false)) (h1 : ¬ (subR en sat_).2 ≠ 0) (h2 : ¬ (mulR (subR en sat_).1 (R.of d)).2 ≠ 0) (h3 : ¬ (addR sum (mulR (subR en sat_).1 (R.of d)).1).2 ≠ 0) :
    valL b ((e, d) :: l) sum sat_ = valL b l (addR sum (mulR (subR en sat_).1 (R.of d)).1).1 en := by
  simp only [valL, hen]
  rw [if_neg h, if_neg h1, if_neg h2, if_neg h3]
end

theorem mulR_spec (a b : R) (ha : a.Wf) (hb : b.Wf) (M : Mem) : Pure1 77 #[RV a, RV b] M (RE (mulR a b)) := mul_spec a b ha hb M

theorem pairs_len {c : CakeV} (g : Good c) : (pairs c).length = c.dens.length := by
  have := g.n3
  simp [pairs]; omega

theorem pairs_drop {c : CakeV} (g : Good c) {i : Nat} (h : i < c.dens.length) : (pairs c).drop i = (c.cuts[i + 1]'(by have := g.n3; omega), c.dens[i]) :: (pairs c).drop (i + 1) := by
  have := pairs_len g
  rw [drop_cons' (show i < (pairs c).length by omega)]
  congr 1
  simp only [pairs, List.getElem_zip, List.getElem_drop]
  congr 2
  omega

set_option maxHeartbeats 4000000 in
set_option maxRecDepth 100000 in
theorem value_spec {q : CP} {c : CakeV} {M : Mem} (h : Ck M q c) (a b : R) (ha : a.Wf) (hb : b.Wf) : Pure1 26 #[q.val, RV a, RV b] M (RE (valueC c a b)) := by
  have hck := h
  obtain ⟨len, ca, cn, ck, da, dn, dk⟩ := q
  obtain ⟨e1, hi, hc, hd⟩ := h
  simp only at e1 hc hd
  subst e1
  have hcn := hc.len
  have hdn := hd.len
  refine ok26.pure 300 [.agg [EA c.len, SA ca cn ck, SA da dn dk], RA a, RA b] rfl (by kernel_rfl) fun c' K hK => ?_
  conv => cbv
  refine CallS.pure (cakeCheck_spec hck) rfl (EA (checkC c)) rfl rfl ?_
  conv => cbv
  refine ⟨fun h1 => ?_, fun h1 => ?_⟩
  · replace h1 := of_decide_eq_true h1
    try simp only [nc] at h1
    try simp only [minF_t] at h1
    try simp only [minF_f] at h1
    try dsimp only at h1
    refine hK.pure rfl (Mem.le_refl _) ?_
    rw [valueC, if_pos h1]
    rfl
  · replace h1 := of_decide_eq_false h1
    try simp only [nc] at h1
    try simp only [minF_t] at h1
    try simp only [minF_f] at h1
    try dsimp only at h1
    have h1 : checkC c = 0 := by omega
    have g := good h1
    have g1 := g.n1
    have g2 := g.n2
    have g3 := g.n3
    have g4 := g.l2
    refine CallS.pure (point_spec hck a ha) rfl (.sb fun _ => pointC c.len a) rfl rfl ?_
    conv => cbv
    refine ⟨fun p1 => ?_, fun p1 => ?_⟩
    · replace p1 : (!pointC c.len a) = true := p1
      refine hK.pure rfl (Mem.le_refl _) ?_
      rw [valueC, if_neg (by omega), if_pos (.inl (by simpa using p1))]
      rfl
    · replace p1 : (!pointC c.len a) = false := p1
      refine CallS.pure (point_spec hck b hb) rfl (.sb fun _ => pointC c.len b) rfl rfl ?_
      conv => cbv
      refine ⟨fun p2 => ?_, fun p2 => ?_⟩
      · replace p2 : (!pointC c.len b) = true := p2
        refine hK.pure rfl (Mem.le_refl _) ?_
        rw [valueC, if_neg (by omega), if_pos (.inr (.inl (by simpa using p2)))]
        rfl
      · replace p2 : (!pointC c.len b) = false := p2
        refine CallS.pure (less_spec b a hb ha M) rfl (.sb fun _ => lessC b a) rfl rfl ?_
        conv => cbv
        refine ⟨fun p3 => ?_, fun p3 => ?_⟩
        · replace p3 : lessC b a = true := p3
          refine hK.pure rfl (Mem.le_refl _) ?_
          rw [valueC, if_neg (by omega), if_pos (.inr (.inr p3))]
          rfl
        · replace p3 : lessC b a = false := p3
          have hv0 : valueC c a b = valL b (pairs c) (R.of 0) a := by
            rw [valueC, if_neg (by omega), if_neg]
            rintro (k | k | k)
            · rw [k] at p1; cases p1
            · rw [k] at p2; cases p2
            · rw [k] at p3; cases p3
          rw [hv0] at hK
          refine CallS.pure (whole_spec 0 (by simp [I64]) M) rfl (RA (R.of 0)) rfl rfl ?_
          conv => cbv
          refine OKS.loopH (fun (p : Nat × R × R) => p.1 ≤ dn ∧ p.2.1.Wf ∧ p.2.2.Wf ∧ valL b ((pairs c).drop p.1) p.2.1 p.2.2 = valL b (pairs c) (R.of 0) a)
            (fun p => [(44, EA p.1)]) (fun p => [(9, .cells 43 [EA p.2.1.n, EA p.2.1.d]), (10, .cells 43 [EA p.2.2.n, EA p.2.2.d]), (13, .none), (14, .none), (16, .none)]) (fun _ => M) (fun p => dn - p.1) (0, R.of 0, a) ⟨by simp, of_wf (by simp [I64]), ha, by simp⟩ ?_ ?_
          · refine ⟨by cbv <;> simp, by cbv <;> simp, by cbv, Mem.le_refl _⟩
          · intro ⟨i, sum, sat_⟩ ⟨hi1, hsum, hat_, hval⟩ ih
            simp only at hi1 hsum hat_ hval
            refine ok26.go 100 (by kernel_rfl) ?_
            conv => cbv
            refine ⟨fun l1 => ?_, fun l1 => ?_⟩
            · replace l1 := of_decide_eq_true l1
              try simp only [nc] at l1
              try simp only [minF_t] at l1
              try simp only [minF_f] at l1
              try dsimp only at l1
              obtain ⟨b0, o0, ea0, hx, hxi⟩ := hd.idx (i := i) (by omega)
              refine .mk b0 o0 i ea0 rfl (by show i < dn; omega) ?_
              conv => cbv
              refine .mk (EA c.dens[i]) rfl hx ?_
              conv => cbv
              refine .i64 ((i + 1 : Nat) : Int) (by show (i : Int) + 1 = _; omega) (by omega) (by omega) ?_
              conv => cbv
              obtain ⟨b1, o1, ea1, hx1, hxi1⟩ := hc.idx (i := i + 1) (by omega)
              refine .mk b1 o1 (i + 1) ea1 rfl (by show i + 1 < cn; omega) ?_
              conv => cbv
              refine .mk (EA c.cuts[i + 1]) rfl hx1 ?_
              conv => cbv
              have hpr := pairs_drop g (i := i) (by omega)
              obtain ⟨en, ee⟩ : ∃ en, R.of c.cuts[i + 1] = en := ⟨_, rfl⟩
              have enw : en.Wf := ee ▸ of_wf hxi1
              refine CallS.pure (whole_spec c.cuts[i + 1] hxi1 M) rfl (RA en) rfl (congrArg RV ee.symm) ?_
              conv => cbv
              refine CallS.pure (less_spec b en hb enw M) rfl (.sb fun _ => lessC b en) rfl rfl ?_
              conv => cbv
              refine ⟨fun h2 => ?_, fun h2 => ?_⟩
              · replace h2 : lessC b en = true := h2
                have hen : (if lessC b (R.of c.cuts[i + 1]) then b else R.of c.cuts[i + 1]) = b := by rw [ee]; exact if_pos h2
                have bw := hb
                refine ⟨fun h3 => ?_, fun h3 => ?_⟩
                · replace h3 := of_decide_eq_true h3
                  try simp only [nc] at h3
                  try simp only [minF_t] at h3
                  try simp only [minF_f] at h3
                  try dsimp only at h3
                  refine CallS.pure (less_spec sat_ b hat_ bw M) rfl (.sb fun _ => lessC sat_ b) rfl rfl ?_
                  conv => cbv
                  refine ⟨fun h9 => ?_, fun h9 => ?_⟩
                  · replace h9 : lessC sat_ b = true := h9
                    refine .i64 ((i + 1 : Nat) : Int) (by show (i : Int) + 1 = _; omega) (by omega) (by omega) ?_
                    conv => cbv
                    refine ih (i + 1, sum, b) ⟨by simp only; omega, hsum, bw, ?_⟩ (by simp only; omega) _ ?_
                    · simp only
                      rw [← hval, hpr, valL_skip hen (.inl h3), h9]
                      rfl
                    · refine ⟨by cbv <;> simp, by cbv <;> simp, by cbv, Mem.le_refl _⟩
                  · replace h9 : lessC sat_ b = false := h9
                    refine .i64 ((i + 1 : Nat) : Int) (by show (i : Int) + 1 = _; omega) (by omega) (by omega) ?_
                    conv => cbv
                    refine ih (i + 1, sum, sat_) ⟨by simp only; omega, hsum, hat_, ?_⟩ (by simp only; omega) _ ?_
                    · simp only
                      rw [← hval, hpr, valL_skip hen (.inl h3), h9]
                      rfl
                    · refine ⟨by cbv <;> simp, by cbv <;> simp, by cbv, Mem.le_refl _⟩
                · replace h3 := of_decide_eq_false h3
                  try simp only [nc] at h3
                  try simp only [minF_t] at h3
                  try simp only [minF_f] at h3
                  try dsimp only at h3
                  refine CallS.pure (less_spec sat_ b hat_ bw M) rfl (.sb fun _ => lessC sat_ b) rfl rfl ?_
                  conv => cbv
                  refine ⟨fun h4 => ?_, fun h4 => ?_⟩
                  · replace h4 : (!lessC sat_ b) = true := h4
                    have h4 : lessC sat_ b = false := by simpa using h4
                    refine CallS.pure (less_spec sat_ b hat_ bw M) rfl (.sb fun _ => lessC sat_ b) rfl rfl ?_
                    conv => cbv
                    refine ⟨fun h9 => ?_, fun h9 => ?_⟩
                    · replace h9 : lessC sat_ b = true := h9
                      refine .i64 ((i + 1 : Nat) : Int) (by show (i : Int) + 1 = _; omega) (by omega) (by omega) ?_
                      conv => cbv
                      refine ih (i + 1, sum, b) ⟨by simp only; omega, hsum, bw, ?_⟩ (by simp only; omega) _ ?_
                      · simp only
                        rw [← hval, hpr, valL_skip hen (.inr h4), h9]
                        rfl
                      · refine ⟨by cbv <;> simp, by cbv <;> simp, by cbv, Mem.le_refl _⟩
                    · replace h9 : lessC sat_ b = false := h9
                      refine .i64 ((i + 1 : Nat) : Int) (by show (i : Int) + 1 = _; omega) (by omega) (by omega) ?_
                      conv => cbv
                      refine ih (i + 1, sum, sat_) ⟨by simp only; omega, hsum, hat_, ?_⟩ (by simp only; omega) _ ?_
                      · simp only
                        rw [← hval, hpr, valL_skip hen (.inr h4), h9]
                        rfl
                      · refine ⟨by cbv <;> simp, by cbv <;> simp, by cbv, Mem.le_refl _⟩
                  · replace h4 : (!lessC sat_ b) = false := h4
                    have h4 : lessC sat_ b = true := by simpa using h4
                    have hns : ¬ (c.dens[i] = 0 ∨ lessC sat_ b = false) := by
                      rintro (k | k)
                      · exact h3 k
                      · rw [k] at h4; cases h4
                    refine CallS.pure (subR_spec b sat_ bw hat_ M) rfl (REA _) rfl rfl ?_
                    conv => cbv
                    refine ⟨fun h5 => ?_, fun h5 => ?_⟩
                    · replace h5 := of_decide_eq_true h5
                      try simp only [nc] at h5
                      try simp only [minF_t] at h5
                      try simp only [minF_f] at h5
                      try dsimp only at h5
                      refine hK.pure rfl (Mem.le_refl _) ?_
                      rw [← hval, hpr, valL_err1 hen hns h5]
                      rfl
                    · replace h5 := of_decide_eq_false h5
                      try simp only [nc] at h5
                      try simp only [minF_t] at h5
                      try simp only [minF_f] at h5
                      try dsimp only at h5
                      refine CallS.pure (whole_spec c.dens[i] hxi M) rfl (RA (R.of c.dens[i])) rfl rfl ?_
                      conv => cbv
                      refine CallS.pure (mulR_spec (subR b sat_).1 (R.of c.dens[i]) (subR_wf _ _) (of_wf hxi) M) rfl (REA _) rfl rfl ?_
                      conv => cbv
                      refine ⟨fun h6 => ?_, fun h6 => ?_⟩
                      · replace h6 := of_decide_eq_true h6
                        try simp only [nc] at h6
                        try simp only [minF_t] at h6
                        try simp only [minF_f] at h6
                        try dsimp only at h6
                        refine hK.pure rfl (Mem.le_refl _) ?_
                        rw [← hval, hpr, valL_err2 hen hns h5 h6]
                        rfl
                      · replace h6 := of_decide_eq_false h6
                        try simp only [nc] at h6
                        try simp only [minF_t] at h6
                        try simp only [minF_f] at h6
                        try dsimp only at h6
                        refine CallS.pure (add_spec sum (mulR (subR b sat_).1 (R.of c.dens[i])).1 hsum (mulR_wf _ _) M) rfl (REA _) rfl rfl ?_
                        conv => cbv
                        refine ⟨fun h7 => ?_, fun h7 => ?_⟩
                        · replace h7 := of_decide_eq_true h7
                          try simp only [nc] at h7
                          try simp only [minF_t] at h7
                          try simp only [minF_f] at h7
                          try dsimp only at h7
                          refine hK.pure rfl (Mem.le_refl _) ?_
                          rw [← hval, hpr, valL_err3 hen hns h5 h6 h7]
                          rfl
                        · replace h7 := of_decide_eq_false h7
                          try simp only [nc] at h7
                          try simp only [minF_t] at h7
                          try simp only [minF_f] at h7
                          try dsimp only at h7
                          refine .i64 ((i + 1 : Nat) : Int) (by show (i : Int) + 1 = _; omega) (by omega) (by omega) ?_
                          conv => cbv
                          refine ih (i + 1, (addR sum (mulR (subR b sat_).1 (R.of c.dens[i])).1).1, b) ⟨by simp only; omega, addR_wf _ _, bw, ?_⟩ (by simp only; omega) _ ?_
                          · simp only
                            rw [← hval, hpr, valL_next hen hns h5 h6 h7]
                          · refine ⟨by cbv <;> simp, by cbv <;> simp, by cbv, Mem.le_refl _⟩
              · replace h2 : lessC b en = false := h2
                have hen : (if lessC b (R.of c.cuts[i + 1]) then b else R.of c.cuts[i + 1]) = en := by rw [ee, h2]; rfl
                refine ⟨fun h3 => ?_, fun h3 => ?_⟩
                · replace h3 := of_decide_eq_true h3
                  try simp only [nc] at h3
                  try simp only [minF_t] at h3
                  try simp only [minF_f] at h3
                  try dsimp only at h3
                  refine CallS.pure (less_spec sat_ en hat_ enw M) rfl (.sb fun _ => lessC sat_ en) rfl rfl ?_
                  conv => cbv
                  refine ⟨fun h9 => ?_, fun h9 => ?_⟩
                  · replace h9 : lessC sat_ en = true := h9
                    refine .i64 ((i + 1 : Nat) : Int) (by show (i : Int) + 1 = _; omega) (by omega) (by omega) ?_
                    conv => cbv
                    refine ih (i + 1, sum, en) ⟨by simp only; omega, hsum, enw, ?_⟩ (by simp only; omega) _ ?_
                    · simp only
                      rw [← hval, hpr, valL_skip hen (.inl h3), h9]
                      rfl
                    · refine ⟨by cbv <;> simp, by cbv <;> simp, by cbv, Mem.le_refl _⟩
                  · replace h9 : lessC sat_ en = false := h9
                    refine .i64 ((i + 1 : Nat) : Int) (by show (i : Int) + 1 = _; omega) (by omega) (by omega) ?_
                    conv => cbv
                    refine ih (i + 1, sum, sat_) ⟨by simp only; omega, hsum, hat_, ?_⟩ (by simp only; omega) _ ?_
                    · simp only
                      rw [← hval, hpr, valL_skip hen (.inl h3), h9]
                      rfl
                    · refine ⟨by cbv <;> simp, by cbv <;> simp, by cbv, Mem.le_refl _⟩
                · replace h3 := of_decide_eq_false h3
                  try simp only [nc] at h3
                  try simp only [minF_t] at h3
                  try simp only [minF_f] at h3
                  try dsimp only at h3
                  refine CallS.pure (less_spec sat_ en hat_ enw M) rfl (.sb fun _ => lessC sat_ en) rfl rfl ?_
                  conv => cbv
                  refine ⟨fun h4 => ?_, fun h4 => ?_⟩
                  · replace h4 : (!lessC sat_ en) = true := h4
                    have h4 : lessC sat_ en = false := by simpa using h4
                    refine CallS.pure (less_spec sat_ en hat_ enw M) rfl (.sb fun _ => lessC sat_ en) rfl rfl ?_
                    conv => cbv
                    refine ⟨fun h9 => ?_, fun h9 => ?_⟩
                    · replace h9 : lessC sat_ en = true := h9
                      refine .i64 ((i + 1 : Nat) : Int) (by show (i : Int) + 1 = _; omega) (by omega) (by omega) ?_
                      conv => cbv
                      refine ih (i + 1, sum, en) ⟨by simp only; omega, hsum, enw, ?_⟩ (by simp only; omega) _ ?_
                      · simp only
                        rw [← hval, hpr, valL_skip hen (.inr h4), h9]
                        rfl
                      · refine ⟨by cbv <;> simp, by cbv <;> simp, by cbv, Mem.le_refl _⟩
                    · replace h9 : lessC sat_ en = false := h9
                      refine .i64 ((i + 1 : Nat) : Int) (by show (i : Int) + 1 = _; omega) (by omega) (by omega) ?_
                      conv => cbv
                      refine ih (i + 1, sum, sat_) ⟨by simp only; omega, hsum, hat_, ?_⟩ (by simp only; omega) _ ?_
                      · simp only
                        rw [← hval, hpr, valL_skip hen (.inr h4), h9]
                        rfl
                      · refine ⟨by cbv <;> simp, by cbv <;> simp, by cbv, Mem.le_refl _⟩
                  · replace h4 : (!lessC sat_ en) = false := h4
                    have h4 : lessC sat_ en = true := by simpa using h4
                    have hns : ¬ (c.dens[i] = 0 ∨ lessC sat_ en = false) := by
                      rintro (k | k)
                      · exact h3 k
                      · rw [k] at h4; cases h4
                    refine CallS.pure (subR_spec en sat_ enw hat_ M) rfl (REA _) rfl rfl ?_
                    conv => cbv
                    refine ⟨fun h5 => ?_, fun h5 => ?_⟩
                    · replace h5 := of_decide_eq_true h5
                      try simp only [nc] at h5
                      try simp only [minF_t] at h5
                      try simp only [minF_f] at h5
                      try dsimp only at h5
                      refine hK.pure rfl (Mem.le_refl _) ?_
                      rw [← hval, hpr, valL_err1 hen hns h5]
                      rfl
                    · replace h5 := of_decide_eq_false h5
                      try simp only [nc] at h5
                      try simp only [minF_t] at h5
                      try simp only [minF_f] at h5
                      try dsimp only at h5
                      refine CallS.pure (whole_spec c.dens[i] hxi M) rfl (RA (R.of c.dens[i])) rfl rfl ?_
                      conv => cbv
                      refine CallS.pure (mulR_spec (subR en sat_).1 (R.of c.dens[i]) (subR_wf _ _) (of_wf hxi) M) rfl (REA _) rfl rfl ?_
                      conv => cbv
                      refine ⟨fun h6 => ?_, fun h6 => ?_⟩
                      · replace h6 := of_decide_eq_true h6
                        try simp only [nc] at h6
                        try simp only [minF_t] at h6
                        try simp only [minF_f] at h6
                        try dsimp only at h6
                        refine hK.pure rfl (Mem.le_refl _) ?_
                        rw [← hval, hpr, valL_err2 hen hns h5 h6]
                        rfl
                      · replace h6 := of_decide_eq_false h6
                        try simp only [nc] at h6
                        try simp only [minF_t] at h6
                        try simp only [minF_f] at h6
                        try dsimp only at h6
                        refine CallS.pure (add_spec sum (mulR (subR en sat_).1 (R.of c.dens[i])).1 hsum (mulR_wf _ _) M) rfl (REA _) rfl rfl ?_
                        conv => cbv
                        refine ⟨fun h7 => ?_, fun h7 => ?_⟩
                        · replace h7 := of_decide_eq_true h7
                          try simp only [nc] at h7
                          try simp only [minF_t] at h7
                          try simp only [minF_f] at h7
                          try dsimp only at h7
                          refine hK.pure rfl (Mem.le_refl _) ?_
                          rw [← hval, hpr, valL_err3 hen hns h5 h6 h7]
                          rfl
                        · replace h7 := of_decide_eq_false h7
                          try simp only [nc] at h7
                          try simp only [minF_t] at h7
                          try simp only [minF_f] at h7
                          try dsimp only at h7
                          refine .i64 ((i + 1 : Nat) : Int) (by show (i : Int) + 1 = _; omega) (by omega) (by omega) ?_
                          conv => cbv
                          refine ih (i + 1, (addR sum (mulR (subR en sat_).1 (R.of c.dens[i])).1).1, en) ⟨by simp only; omega, addR_wf _ _, enw, ?_⟩ (by simp only; omega) _ ?_
                          · simp only
                            rw [← hval, hpr, valL_next hen hns h5 h6 h7]
                          · refine ⟨by cbv <;> simp, by cbv <;> simp, by cbv, Mem.le_refl _⟩
            · replace l1 := of_decide_eq_false l1
              try simp only [nc] at l1
              try simp only [minF_t] at l1
              try simp only [minF_f] at l1
              try dsimp only at l1
              have : i = dn := by omega
              subst this
              refine hK.pure rfl (Mem.le_refl _) ?_
              rw [← hval, List.drop_eq_nil_of_le (by rw [pairs_len g]; omega)]
              rfl

end Go.SX
