/- Reference of cakes: the mark. -/
import Derived.Test.YtojdihbanakhgaaAiG
import Derived.Test.YtojdihbanakhgaaAgJ
namespace Go.SX
open Go.Proofs.Try Go.Proofs

/-- What the walk's outcome is told as. -/
def markW (r : Int × MSt) : R × Int := if (if r.1 ≠ 0 then r.1 else r.2.late) ≠ 0 then (R.zero, if r.1 ≠ 0 then r.1 else r.2.late) else (r.2.out, 0)

theorem markW_err {e : Int} {st : MSt} (h : e ≠ 0) : markW (e, st) = (R.zero, e) := by simp [markW, h]
theorem markW_late {st : MSt} (h : st.late ≠ 0) : markW (0, st) = (R.zero, st.late) := by simp [markW, h]
theorem markW_out {st : MSt} (h : st.late = 0) : markW (0, st) = (st.out, 0) := by simp [markW, h]

theorem visit_zero (f w : R) (st : MSt) : visitC f w 0 st = (false, st) := by simp [visitC]
theorem visit_less {f w : R} {d : Int} {st : MSt} (hd : d ≠ 0) (h : lessC w st.v = true) : visitC f w d st = (decide ((subR st.v w).2 ≠ 0), ⟨(subR st.v w).1, if (subR st.v w).2 ≠ 0 then (subR st.v w).2 else 6, st.out⟩) := by
  rw [visitC, if_neg hd, if_pos h]
theorem visit_div {f w : R} {d : Int} {st : MSt} (hd : d ≠ 0) (h : ¬ lessC w st.v = true) (h2 : (divR st.v (R.of d)).2 = 0) : visitC f w d st = (true, ⟨st.v, (addR f (divR st.v (R.of d)).1).2, (addR f (divR st.v (R.of d)).1).1⟩) := by
  rw [visitC, if_neg hd, if_neg h, if_pos h2]
theorem visit_bad {f w : R} {d : Int} {st : MSt} (hd : d ≠ 0) (h : ¬ lessC w st.v = true) (h2 : ¬ (divR st.v (R.of d)).2 = 0) : visitC f w d st = (true, ⟨st.v, (divR st.v (R.of d)).2, st.out⟩) := by
  rw [visitC, if_neg hd, if_neg h, if_neg h2]

set_option maxHeartbeats 2000000 in
set_option maxRecDepth 100000 in
theorem refMark_spec {q : CP} {c : CakeV} {M : Mem} (h : Ck M q c) (a v : R) (ha : a.Wf) (hv : v.Wf) : Pure1 96 #[q.val, RV a, RV v] M (RE (markC c a v)) := by
  have hck := h
  obtain ⟨len, ca, cn, ck, da, dn, dk⟩ := q
  obtain ⟨e1, hi, hc, hd⟩ := h
  simp only at e1 hc hd
  subst e1
  have hcn := hc.len
  have hdn := hd.len
  refine ok96.pure 300 [.agg [EA c.len, SA ca cn ck, SA da dn dk], RA a, RA v] rfl (by kernel_rfl) fun c' K hK => ?_
  conv => cbv
  refine CallS.pure (refCheck_spec hck) rfl (EA (checkC c)) rfl rfl ?_
  conv => cbv
  refine ⟨fun h1 => ?_, fun h1 => ?_⟩
  · replace h1 := of_decide_eq_true h1
    try simp only [nc] at h1
    try simp only [minF_t] at h1
    try simp only [minF_f] at h1
    try dsimp only at h1
    refine CallS.pure (refCheck_spec hck) rfl (EA (checkC c)) rfl rfl ?_
    conv => cbv
    refine hK.pure rfl (Mem.le_refl _) ?_
    rw [markC, if_pos h1]
    rfl
  · replace h1 := of_decide_eq_false h1
    try simp only [nc] at h1
    try simp only [minF_t] at h1
    try simp only [minF_f] at h1
    try dsimp only at h1
    have h1 : checkC c = 0 := by omega
    have h1' : ¬ checkC c ≠ 0 := fun k => k h1
    have g := good h1
    have g1 := g.n1
    have g2 := g.n2
    have g3 := g.n3
    have gl := g.l1
    have gl2 := g.l2
    refine CallS.pure (point02_spec c.len a hi (by omega) ha M) rfl (.sb fun _ => pointC c.len a) rfl rfl ?_
    conv => cbv
    refine ⟨fun p1 => ?_, fun p1 => ?_⟩
    · replace p1 : (!pointC c.len a) = true := p1
      refine hK.pure rfl (Mem.le_refl _) ?_
      rw [markC, if_neg h1', if_pos (.inl (by simpa using p1))]
      rfl
    · replace p1 : (!pointC c.len a) = false := p1
      have p1 : pointC c.len a = true := by simpa using p1
      refine CallS.pure (check01_spec v hv M) rfl (EA (okE v)) rfl rfl ?_
      conv => cbv
      refine ⟨fun p2 => ?_, fun p2 => ?_⟩
      · replace p2 := of_decide_eq_true p2
        try simp only [nc] at p2
        try simp only [minF_t] at p2
        try simp only [minF_f] at p2
        try dsimp only at p2
        have hvo : v.ok = false := by
          by_cases e : v.ok = true
          · rw [okE, if_pos e] at p2; exact absurd rfl p2
          · simpa using e
        refine hK.pure rfl (Mem.le_refl _) ?_
        rw [markC, if_neg h1', if_pos (.inr (.inl hvo))]
        rfl
      · replace p2 := of_decide_eq_false p2
        try simp only [nc] at p2
        try simp only [minF_t] at p2
        try simp only [minF_f] at p2
        try dsimp only at p2
        have hvo : v.ok = true := by
          by_cases e : v.ok = true
          · exact e
          · rw [okE, if_neg e] at p2; exact absurd (by decide) p2
        refine ⟨fun p3 => ?_, fun p3 => ?_⟩
        · replace p3 := of_decide_eq_true p3
          try simp only [nc] at p3
          try simp only [minF_t] at p3
          try simp only [minF_f] at p3
          try dsimp only at p3
          refine hK.pure rfl (Mem.le_refl _) ?_
          rw [markC, if_neg h1', if_pos (.inr (.inr p3))]
          rfl
        · replace p3 := of_decide_eq_false p3
          try simp only [nc] at p3
          try simp only [minF_t] at p3
          try simp only [minF_f] at p3
          try dsimp only at p3
          have hn : ¬ (pointC c.len a = false ∨ v.ok = false ∨ v.n < 0) := by
            rintro (k | k | k)
            · rw [p1] at k; cases k
            · rw [hvo] at k; cases k
            · exact p3 k
          have oa : a.ok = true := by simp only [pointC, Bool.and_eq_true] at p1; exact p1.1.1
          have an : 0 ≤ a.n := by simp only [pointC, Bool.and_eq_true, decide_eq_true_eq] at p1; exact p1.1.2
          by_cases p4 : v.n = 0
          · have hm : markC c a v = (a, 0) := by rw [markC, if_neg h1', if_neg hn, if_pos p4]
            rw [hm] at hK
            refine OKS.unloop ?_
            refine ok96.go 100 (by kernel_rfl) ?_
            conv => cbv
            refine ⟨fun l1 => ?_, fun l1 => ?_⟩
            · refine ⟨fun l2 => ?_, fun l2 => ?_⟩
              · replace l2 := of_decide_eq_true l2
                try simp only [nc] at l2
                try simp only [minF_t] at l2
                try simp only [minF_f] at l2
                try dsimp only at l2
                omega
              · refine ⟨fun l3 => ?_, fun l3 => ?_⟩
                · replace l3 := of_decide_eq_true l3
                  try simp only [nc] at l3
                  try simp only [minF_t] at l3
                  try simp only [minF_f] at l3
                  try dsimp only at l3
                  omega
                · refine hK.pure rfl (Mem.le_refl _) ?_
                  rfl
            · refine ⟨fun l3 => ?_, fun l3 => ?_⟩
              · replace l3 := of_decide_eq_true l3
                try simp only [nc] at l3
                try simp only [minF_t] at l3
                try simp only [minF_f] at l3
                try dsimp only at l3
                omega
              · refine hK.pure rfl (Mem.le_refl _) ?_
                rfl
          · have hm : markC c a v = markW (walkL (pairs c) a ⟨v, 6, R.zero⟩) := by rw [markC, if_neg h1', if_neg hn, if_neg p4]; rfl
            rw [hm] at hK
            have kc : ∀ i (hh : i < c.cuts.length), (R.of c.cuts[i]).ok = true := fun i hh => of_ok (by have := g.cut hh; omega)
            refine OKS.loopH (fun (p : Nat × R × R) => p.1 ≤ dn ∧ p.2.1.ok = true ∧ p.2.2.ok = true ∧ 0 < p.2.2.n ∧ markW (walkL ((pairs c).drop p.1) p.2.1 ⟨p.2.2, 6, R.zero⟩) = markW (walkL (pairs c) a ⟨v, 6, R.zero⟩) ∧ ∀ hh : p.1 < c.cuts.length, ltR p.2.1 (R.of c.cuts[p.1]) = false)
              (fun p => [(9, EA p.1)]) (fun p => [(8, .cells 43 [EA p.2.1.n, EA p.2.1.d]), (5, .cells 43 [EA p.2.2.n, EA p.2.2.d]), (10, .none), (11, .none), (13, .none)]) (fun _ => M) (fun p => dn - p.1) (0, a, v) ⟨by simp, oa, hvo, by show 0 < v.n; omega, by simp, fun hh => ?_⟩ ?_ ?_
            · have f := g.first
              rw [List.getElem?_eq_getElem hh] at f
              have f := Option.some.inj f
              show ltR a (R.of c.cuts[0]) = false
              rw [f, nltR_iff]
              simp [R.of, an]
            · refine ⟨by cbv <;> simp, by cbv <;> simp, by cbv, Mem.le_refl _⟩
            · intro ⟨i, at_, u⟩ ⟨hi1, hao, huo, hun, hval, hst⟩ ih
              simp only at hi1 hao huo hun hval hst
              refine ok96.go 100 (by kernel_rfl) ?_
              conv => cbv
              refine ⟨fun l1 => ?_, fun l1 => ?_⟩
              · replace l1 := of_decide_eq_true l1
                try simp only [nc] at l1
                try simp only [minF_t] at l1
                try simp only [minF_f] at l1
                try dsimp only at l1
                refine ⟨fun l2 => ?_, fun l2 => ?_⟩
                · replace l2 := of_decide_eq_true l2
                  try dsimp only at l2
                  have hpr := pairs_drop g (i := i) (by omega)
                  have hst := hst (by omega)
                  have hup := g.up i (by omega)
                  have k0 := kc i (by omega)
                  have k1 := kc (i + 1) (by omega)
                  have hdm := g.dens _ (List.getElem_mem (show i < c.dens.length by omega))
                  have b1 := g.cut (i := i + 1) (by omega)
                  obtain ⟨bx1, o1, ea1, hx1, w1⟩ := hc.idx (i := i + 1) (by omega)
                  obtain ⟨bx2, o2, ea2, hx2, w2⟩ := hd.idx (i := i) (by omega)
                  obtain ⟨en, hen⟩ : ∃ en, R.of (c.cuts[i + 1]'(by omega)) = en := ⟨_, rfl⟩
                  have hen' : en.ok = true := hen ▸ k1
                  have hws := worth_spec hck g (i := i) (by omega) at_ en hao hen'
                  obtain ⟨c0, hc0⟩ : ∃ c0, c.cuts[i]'(by omega) = c0 := ⟨_, rfl⟩
                  obtain ⟨c1, hc1⟩ : ∃ c1, c.cuts[i + 1]'(by omega) = c1 := ⟨_, rfl⟩
                  obtain ⟨d, hdd⟩ : ∃ d, c.dens[i]'(by omega) = d := ⟨_, rfl⟩
                  rw [hc0] at hst hup k0 hws
                  rw [hc1] at hup k1 hpr hws hx1 w1 b1 hen
                  rw [hdd] at hpr hws hdm hx2 w2
                  have kd := of_ok (n := d) (by omega)
                  have hstn : ∀ hh : i + 1 < c.cuts.length, c.cuts[i + 1] = c1 := fun _ => hc1
                  rw [hpr] at hval
                  refine .i64 ((i + 1 : Nat) : Int) (by show (i : Int) + 1 = _; omega) (by omega) (by omega) ?_
                  conv => cbv
                  refine .mk bx1 o1 (i + 1) ea1 rfl (by show i + 1 < cn; omega) ?_
                  conv => cbv
                  refine .mk (EA c1) rfl hx1 ?_
                  conv => cbv
                  refine CallS.pure (of60_spec c1 w1 M) rfl (RA en) rfl (by rw [← hen]; rfl) ?_
                  conv => cbv
                  refine CallS.pure (less01_spec at_ en hao hen' M) rfl (.sb fun _ => ltR at_ en) rfl rfl ?_
                  conv => cbv
                  refine ⟨fun t1 => ?_, fun t1 => ?_⟩
                  · replace t1 : (!ltR at_ en) = true := t1
                    have t1 : ltR at_ en = false := by simpa using t1
                    rw [walk_skip hen (by rw [lessC_eq hao hen']; exact t1)] at hval
                    refine CallS.pure (later_spec at_ en hao hen' M) rfl (RA at_) rfl (by rw [laterR, if_neg (by rw [t1]; simp)]; rfl) ?_
                    conv => cbv
                    refine .i64 ((i + 1 : Nat) : Int) (by show (i : Int) + 1 = _; omega) (by omega) (by omega) ?_
                    conv => cbv
                    refine ih (i + 1, at_, u) ⟨by simp only; omega, hao, huo, hun, hval, fun hh => by simp only; rw [hstn hh, hen]; exact t1⟩ (by simp only; omega) _ ?_
                    refine ⟨by cbv <;> simp, by cbv <;> simp, by cbv, Mem.le_refl _⟩
                  · replace t1 : (!ltR at_ en) = false := t1
                    have t1 : ltR at_ en = true := by simpa using t1
                    have t1' : ¬ lessC at_ en = false := by rw [lessC_eq hao hen', t1]; simp
                    refine .mk bx2 o2 i ea2 rfl (by show i < dn; omega) ?_
                    conv => cbv
                    refine .mk (EA d) rfl hx2 ?_
                    conv => cbv
                    refine ⟨fun t2 => ?_, fun t2 => ?_⟩
                    · replace t2 := of_decide_eq_true t2
                      try simp only [nc] at t2
                      try simp only [minF_t] at t2
                      try simp only [minF_f] at t2
                      try dsimp only at t2
                      subst t2
                      rw [walk_neg hen t1' (by omega), visit_zero] at hval
                      simp only [Bool.false_eq_true, if_false] at hval
                      refine CallS.pure (later_spec at_ en hao hen' M) rfl (RA en) rfl (by rw [laterR, if_pos t1]; rfl) ?_
                      conv => cbv
                      refine .i64 ((i + 1 : Nat) : Int) (by show (i : Int) + 1 = _; omega) (by omega) (by omega) ?_
                      conv => cbv
                      refine ih (i + 1, en, u) ⟨by simp only; omega, hen', huo, hun, hval, fun hh => by simp only; rw [hstn hh, hen]; exact lt_irrefl' _⟩ (by simp only; omega) _ ?_
                      refine ⟨by cbv <;> simp, by cbv <;> simp, by cbv, Mem.le_refl _⟩
                    · replace t2 := of_decide_eq_false t2
                      try simp only [nc] at t2
                      try simp only [minF_t] at t2
                      try simp only [minF_f] at t2
                      try dsimp only at t2
                      have hdp : 0 < d := by omega
                      have hwr : worthR c0 c1 d at_ en = if (subR en at_).2 ≠ 0 then (R.zero, (subR en at_).2) else mulR (subR en at_).1 (R.of d) := by
                        have f1 : laterR at_ (R.of c0) = at_ := by rw [laterR, if_neg (by rw [hst]; simp)]
                        have f2 : soonerR en (R.of c1) = en := by rw [soonerR, hen]; split <;> rfl
                        rw [worthR, f1, f2, if_neg]
                        rintro (k | k)
                        · rw [t1] at k; cases k
                        · exact t2 k
                      rw [hwr] at hws
                      by_cases m1 : (subR en at_).2 ≠ 0
                      · rw [if_pos m1] at hws
                        rw [walk_err1 hen t1' hdp m1, markW_err m1] at hval
                        refine CallS.pure hws rfl (REA (R.zero, (subR en at_).2)) rfl rfl ?_
                        conv => cbv
                        refine ⟨fun t3 => ?_, fun t3 => ?_⟩
                        · replace t3 := of_decide_eq_true t3
                          try dsimp only at t3
                          try simp only [nc] at t3
                          try simp only [minF_t] at t3
                          try simp only [minF_f] at t3
                          refine hK.pure rfl (Mem.le_refl _) ?_
                          rw [← hval]
                          rfl
                        · replace t3 := of_decide_eq_false t3
                          try dsimp only at t3
                          try simp only [nc] at t3
                          try simp only [minF_t] at t3
                          try simp only [minF_f] at t3
                          exact absurd t3 (fun k => k m1)
                      · rw [if_neg m1] at hws
                        obtain ⟨w, hw⟩ : ∃ w, mulR (subR en at_).1 (R.of d) = w := ⟨_, rfl⟩
                        rw [hw] at hws
                        refine CallS.pure hws rfl (REA w) rfl rfl ?_
                        conv => cbv
                        refine ⟨fun t3 => ?_, fun t3 => ?_⟩
                        · replace t3 := of_decide_eq_true t3
                          try simp only [nc] at t3
                          try simp only [minF_t] at t3
                          try simp only [minF_f] at t3
                          try dsimp only at t3
                          rw [walk_err2 hen t1' hdp m1 (by rw [hw]; exact t3), hw, markW_err t3] at hval
                          refine hK.pure rfl (Mem.le_refl _) ?_
                          rw [← hval]
                          rfl
                        · replace t3 := of_decide_eq_false t3
                          try simp only [nc] at t3
                          try simp only [minF_t] at t3
                          try simp only [minF_f] at t3
                          try dsimp only at t3
                          have hwo : w.1.ok = true := hw ▸ mulR_ok (by rw [hw]; omega)
                          rw [walk_pos hen t1' hdp m1 (by rw [hw]; exact t3), hw] at hval
                          refine CallS.pure (less01_spec w.1 u hwo huo M) rfl (.sb fun _ => ltR w.1 u) rfl rfl ?_
                          conv => cbv
                          refine ⟨fun t4 => ?_, fun t4 => ?_⟩
                          · replace t4 : (!ltR w.1 u) = true := t4
                            have t4 : ltR w.1 u = false := by simpa using t4
                            have t4' : ¬ lessC w.1 u = true := by rw [lessC_eq hwo huo, t4]; simp
                            refine .mk bx2 o2 i ea2 rfl (by show i < dn; omega) ?_
                            conv => cbv
                            refine .mk (EA d) rfl hx2 ?_
                            conv => cbv
                            refine CallS.pure (of60_spec d w2 M) rfl (RA (R.of d)) rfl rfl ?_
                            conv => cbv
                            obtain ⟨dq, hdq⟩ : ∃ dq, divR u (R.of d) = dq := ⟨_, rfl⟩
                            have hdw : dq.1.Wf := hdq ▸ divR_wf _ _
                            refine CallS.pure (div01_spec u (R.of d) (R.Wf.of_ok huo) (R.Wf.of_ok kd) M) rfl (REA dq) rfl (by rw [hdq]; rfl) ?_
                            conv => cbv
                            refine ⟨fun t5 => ?_, fun t5 => ?_⟩
                            · replace t5 := of_decide_eq_true t5
                              try simp only [nc] at t5
                              try simp only [minF_t] at t5
                              try simp only [minF_f] at t5
                              try dsimp only at t5
                              rw [visit_bad (st := ⟨u, 6, R.zero⟩) t2 t4' (by rw [hdq]; exact t5), hdq] at hval
                              simp only [if_true] at hval
                              rw [markW_late (by exact t5)] at hval
                              refine hK.pure rfl (Mem.le_refl _) ?_
                              rw [← hval]
                              rfl
                            · replace t5 := of_decide_eq_false t5
                              try simp only [nc] at t5
                              try simp only [minF_t] at t5
                              try simp only [minF_f] at t5
                              try dsimp only at t5
                              have t5' : dq.2 = 0 := by omega
                              rw [visit_div (st := ⟨u, 6, R.zero⟩) t2 t4' (by rw [hdq]; exact t5'), hdq] at hval
                              simp only [if_true] at hval
                              obtain ⟨r, hr⟩ : ∃ r, addR at_ dq.1 = r := ⟨_, rfl⟩
                              refine CallS.pure (add01_spec at_ dq.1 (R.Wf.of_ok hao) hdw M) rfl (REA r) rfl (by rw [hr]; rfl) ?_
                              conv => cbv
                              rw [hr] at hval
                              refine hK.pure rfl (Mem.le_refl _) ?_
                              rw [← hval]
                              by_cases t6 : r.2 = 0
                              · rw [markW_out t6]
                                show _ = RE (r.1, 0)
                                rw [← t6]
                                rfl
                              · rw [markW_late t6]
                                have := addR_zero' (a := at_) (b := dq.1) (by rw [hr]; exact t6)
                                rw [hr] at this
                                show _ = RE (R.zero, r.2)
                                rw [← this]
                                rfl
                          · replace t4 : (!ltR w.1 u) = false := t4
                            have t4 : ltR w.1 u = true := by simpa using t4
                            have t4' : lessC w.1 u = true := by rw [lessC_eq hwo huo, t4]
                            rw [visit_less (st := ⟨u, 6, R.zero⟩) t2 t4'] at hval
                            obtain ⟨s, hs⟩ : ∃ s, subR u w.1 = s := ⟨_, rfl⟩
                            have hsp := fun e => subR_pos huo hwo t4 e
                            have hsk := fun e => subR_ok (a := u) (b := w.1) e
                            rw [hs] at hsp hsk
                            simp only [hs] at hval
                            refine CallS.pure (sub01_spec u w.1 (R.Wf.of_ok huo) (R.Wf.of_ok hwo) M) rfl (REA s) rfl (by rw [hs]; rfl) ?_
                            conv => cbv
                            refine ⟨fun t5 => ?_, fun t5 => ?_⟩
                            · replace t5 := of_decide_eq_true t5
                              try simp only [nc] at t5
                              try simp only [minF_t] at t5
                              try simp only [minF_f] at t5
                              try dsimp only at t5
                              rw [decide_eq_true t5] at hval
                              simp only [if_true] at hval
                              rw [if_pos t5, markW_late (by exact t5)] at hval
                              refine hK.pure rfl (Mem.le_refl _) ?_
                              rw [← hval]
                              rfl
                            · replace t5 := of_decide_eq_false t5
                              try simp only [nc] at t5
                              try simp only [minF_t] at t5
                              try simp only [minF_f] at t5
                              try dsimp only at t5
                              have t5' : s.2 = 0 := by omega
                              rw [decide_eq_false t5] at hval
                              simp only [Bool.false_eq_true, if_false] at hval
                              rw [if_neg t5] at hval
                              refine .i64 ((i + 1 : Nat) : Int) (by show (i : Int) + 1 = _; omega) (by omega) (by omega) ?_
                              conv => cbv
                              refine ih (i + 1, en, s.1) ⟨by simp only; omega, hen', hsk t5', hsp t5', hval, fun hh => by simp only; rw [hstn hh, hen]; exact lt_irrefl' _⟩ (by simp only; omega) _ ?_
                              refine ⟨by cbv <;> simp, by cbv <;> simp, by cbv, Mem.le_refl _⟩
                · replace l2 := of_decide_eq_false l2
                  try dsimp only at l2
                  try simp only [nc] at l2
                  try simp only [minF_t] at l2
                  try simp only [minF_f] at l2
                  omega
              · replace l1 := of_decide_eq_false l1
                try simp only [nc] at l1
                try simp only [minF_t] at l1
                try simp only [minF_f] at l1
                try dsimp only at l1
                rw [List.drop_eq_nil_of_le (by rw [pairs_len g]; omega)] at hval
                have hval : markW (0, ⟨u, 6, R.zero⟩) = _ := hval
                rw [markW_late (show (6 : Int) ≠ 0 by decide)] at hval
                refine ⟨fun l3 => ?_, fun l3 => ?_⟩
                · refine hK.pure rfl (Mem.le_refl _) ?_
                  rw [← hval]
                  rfl
                · replace l3 := of_decide_eq_false l3
                  try dsimp only at l3
                  try simp only [nc] at l3
                  try simp only [minF_t] at l3
                  try simp only [minF_f] at l3
                  omega

end Go.SX
