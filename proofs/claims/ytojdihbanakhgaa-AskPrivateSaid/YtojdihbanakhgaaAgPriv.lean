/- Law 4: AskPrivate. -/
import Derived.Test.YtojdihbanakhgaaAgZe
import Derived.Test.YtojdihbanakhgaaAgQ
namespace Go.SX
open Go.Proofs.Try Go.Proofs

/-- What is asked of a desk is what is asked of the cake, unless the log is full. -/
theorem askC_eq {F : CakeV → R → R → R × Int} {cs : List CakeV} {n : Nat} {ag : Int} {a b : R} (h1 : deskC cs n = 0) (h2 : hasC cs.length ag = true) :
    askC F cs n ag a b = if (F (getC cs ag) a b).2 ≠ 0 then (R.zero, (F (getC cs ag) a b).2) else if 2000 ≤ n then (R.zero, 4) else ((F (getC cs ag) a b).1, 0) := by
  rw [askC, if_neg (by omega), if_neg (by rw [h2]; simp)]

theorem getC_set {cs : List CakeV} {i : Nat} (hi : i < cs.length) (c : CakeV) : getC (cs.set i c) ((i : Nat) : Int) = c := by
  rw [getC_eq rfl (by simpa using hi)]
  simp

set_option maxHeartbeats 2000000 in
set_option maxRecDepth 100000 in
theorem askPrivate_spec {cs others : List CakeV} {log : List QV} {M : Mem} {ca qa oa : Option Addr} {cn ck qn qk on ok : Nat} (h : RC M ca cn ck cs) (hq : RQ M qa qn qk log) (ho : RC M oa on ok others)
    (hb : cn ≤ 9223372036854775807) (hb2 : on ≤ 9223372036854775807) (ag : Int) (hag : I64 ag) (a b : R) (ha : a.Wf) (hbw : b.Wf) :
    Spec 7 #[DV ca cn ck qa qn qk, SV oa on ok, EV ag, RV a, RV b] M fun _ _ v => v = .bool true := by
  have hn := h.len
  have hqn := hq.len
  have hon := ho.len
  have alive : ∀ {c : Ct} {N : Mem} {up : Bool} {p : Mem → AV → Prop}, (∀ N', Keeps noL N N' → p N' .tt) → CallS c up 40 [] N p := fun {c N up p} hp =>
    CallS.spec (alive4_spec N) rfl fun B2 M2 v2 hB2 hlt2 hk2 hn2 hv => ⟨.tt, rfl, hv.symm, hp M2 hk2⟩
  refine ok7.spec 18 [DA ca cn ck qa qn qk, SA oa on ok, EA ag, RA a, RA b] rfl (by kernel_rfl) fun c K hK => ?_
  conv => cbv
  refine CallS.pure (greatDesk_spec (qa := qa) (qn := qn) (qk := qk) h hb) rfl (.sb fun _ => greatD cs qn) rfl rfl ?_
  conv => cbv
  refine ⟨fun g1 => ?_, fun g1 => ?_⟩
  · refine alive fun N hk => ?_
    conv => cbv
    exact hK.ground rfl hk rfl
  · refine CallS.pure (refDesk_spec (qa := qa) (qn := qn) (qk := qk) h) rfl (EA (deskC cs qn)) rfl rfl ?_
    conv => cbv
    refine ⟨fun g2 => ?_, fun g2 => ?_⟩
    · replace g2 := of_decide_eq_true g2
      try simp only [nc] at g2
      try simp only [minF_t] at g2
      try simp only [minF_f] at g2
      try dsimp only at g2
      refine alive fun N hk => ?_
      conv => cbv
      exact hK.ground rfl hk rfl
    · replace g2 := of_decide_eq_false g2
      try simp only [nc] at g2
      try simp only [minF_t] at g2
      try simp only [minF_f] at g2
      try dsimp only at g2
      have g2 : deskC cs qn = 0 := by omega
      refine CallS.pure (agent_spec ag) rfl (.sb fun _ => hasC cn ag) rfl rfl ?_
      conv => cbv
      refine ⟨fun g3 => ?_, fun g3 => ?_⟩
      · refine alive fun N hk => ?_
        conv => cbv
        exact hK.ground rfl hk rfl
      · replace g3 : (!hasC cn ag) = false := g3
        have g3 : hasC cn ag = true := by simpa using g3
        refine CallS.pure (greatCakes_spec ho hb2) rfl (.sb fun _ => greatL others) rfl rfl ?_
        conv => cbv
        refine ⟨fun g4 => ?_, fun g4 => ?_⟩
        · refine alive fun N hk => ?_
          conv => cbv
          exact hK.ground rfl hk rfl
        · replace g4 : greatL others = false := g4
          refine ⟨fun g5 => ?_, fun g5 => ?_⟩
          · replace g5 := of_decide_eq_true g5
            try simp only [nc] at g5
            try simp only [minF_t] at g5
            try simp only [minF_f] at g5
            try dsimp only at g5
            refine alive fun N hk => ?_
            conv => cbv
            exact hK.ground rfl hk rfl
          · replace g5 := of_decide_eq_false g5
            try simp only [nc] at g5
            try simp only [minF_t] at g5
            try simp only [minF_f] at g5
            try dsimp only at g5
            have hlen : on = cn := by omega
            obtain ⟨i, rfl, hi⟩ := hasC_nat g3
            obtain ⟨bq, oq, pq, eaq, hpq, hck⟩ := h.cake (i := i) (by omega)
            have hgc : getC cs ((i : Nat) : Int) = cs[i] := getC_eq rfl (by omega)
            have hV := askC_eq (F := valueC) (a := a) (b := b) g2 (by rw [← hn]; exact g3)
            have hP := askC_eq (F := markC) (a := a) (b := b) g2 (by rw [← hn]; exact g3)
            rw [hgc] at hV hP
            refine CallS.spec (askValue_spec h hq i hag a b ha hbw) rfl fun B1 M1 v1 hB1 hlt1 hk1 hn1 ⟨ca1, cn1, ck1, qa1, qn1, qk1, ev1, hc1, hl1⟩ => ⟨.tup [DA ca1 cn1 ck1 qa1 qn1 qk1, RA (askC valueC cs qn i a b).1, EA (askC valueC cs qn i a b).2], rfl, ev1.symm, ?_⟩
            conv => cbv
            refine .mk bq oq i eaq rfl hi ?_
            conv => cbv
            refine .mk pq.avs rfl rfl (CellsAt.le hk1.le hpq) ?_
            conv => cbv
            refine CallS.pure (value_spec (hck.up hk1.le) a b ha hbw) rfl (REA (valueC cs[i] a b)) rfl rfl ?_
            conv => cbv
            refine CallS.spec (askMark_spec (h.up ElC.up hk1.le) (hq.up ElQ.up hk1.le) i hag a b ha hbw) rfl fun B2 M2 v2 hB2 hlt2 hk2 hn2 ⟨ca2, cn2, ck2, qa2, qn2, qk2, ev2, hc2, hl2⟩ => ⟨.tup [DA ca2 cn2 ck2 qa2 qn2 qk2, RA (askC markC cs qn i a b).1, EA (askC markC cs qn i a b).2], rfl, ev2.symm, ?_⟩
            conv => cbv
            refine .mk bq oq i eaq rfl hi ?_
            conv => cbv
            refine .mk pq.avs rfl rfl (CellsAt.le hk2.le (CellsAt.le hk1.le hpq)) ?_
            conv => cbv
            refine CallS.pure (mark_spec ((hck.up hk1.le).up hk2.le) a b ha hbw) rfl (REA (markC cs[i] a b)) rfl rfl ?_
            conv => cbv
            obtain ⟨v, hv⟩ : ∃ v, valueC cs[i] a b = v := ⟨_, rfl⟩
            obtain ⟨u, hu⟩ : ∃ u, markC cs[i] a b = u := ⟨_, rfl⟩
            obtain ⟨x, hx⟩ : ∃ x, askC valueC cs qn i a b = x := ⟨_, rfl⟩
            obtain ⟨y, hy⟩ : ∃ y, askC markC cs qn i a b = y := ⟨_, rfl⟩
            rw [hv, hx] at hV
            rw [hu, hy] at hP
            obtain ⟨d1, d2, d3, d4, d5⟩ := deskC_ok g2
            have wx : x.1.Wf := by rw [hx.symm]; exact wf_askC _ _ _ _ _ (fun c => wf_valueC c a b)
            have wy : y.1.Wf := by rw [hy.symm]; exact wf_askC _ _ _ _ _ (fun c => wf_markC c a b ha hbw)
            rw [hx] at hc1 hl1
            rw [hy] at hc2 hl2
            rw [hv, hu, hx, hy]
            have fx : (v.2 ≠ 0 ∧ x.2 = v.2) ∨ (v.2 = 0 ∧ 2000 ≤ qn ∧ x.2 = 4) ∨ (v.2 = 0 ∧ qn < 2000 ∧ x.2 = 0) := by
              rw [hV]; repeat' split
              all_goals simp_all
            have fx1 : v.2 = 0 → qn < 2000 → x.1 = v.1 := fun k1 k2 => by rw [hV, if_neg (by omega), if_neg (by omega)]
            have fy : (u.2 ≠ 0 ∧ y.2 = u.2) ∨ (u.2 = 0 ∧ 2000 ≤ qn ∧ y.2 = 4) ∨ (u.2 = 0 ∧ qn < 2000 ∧ y.2 = 0) := by
              rw [hP]; repeat' split
              all_goals simp_all
            have fy1 : u.2 = 0 → qn < 2000 → y.1 = u.1 := fun k1 k2 => by rw [hP, if_neg (by omega), if_neg (by omega)]
            have z4 : ∀ c ∈ others, c.cuts.length ≤ 1000 ∧ c.dens.length ≤ 1000 := fun c hc => by
              simp only [greatL, Bool.or_eq_false_iff, List.any_eq_false] at g4
              have := g4.1 c hc
              simp only [greatC, Bool.or_eq_true, decide_eq_true_eq] at this
              omega
            have hz : ∀ c ∈ cs, c.cuts.length ≤ 1000 ∧ c.dens.length ≤ 1000 := fun c hc => by have g := good (d4 c hc); have := g.n2; have := g.n3; omega
            have hM2 := Mem.le_trans hk1.le hk2.le
            have c2 := h.up ElC.up hM2
            have q2 := hq.up ElQ.up hM2
            have c1n := hc1.len
            have q1n := hl1.len
            have q2n := hl2.len
            refine OKS.cut (κ := Unit) (fun _ => True) (fun _ => []) (fun _ => []) (fun _ => M2) ?_ fun hj => ?_
            · intro _ _
              refine ok7.go 1 (by kernel_rfl) ?_
              conv => cbv
              refine OKS.cut (κ := Unit) (fun _ => True) (fun _ => []) (fun _ => []) (fun _ => M2) ?_ fun hj => ?_
              · intro _ _
                refine ok7.go 1 (by kernel_rfl) ?_
                conv => cbv
                refine OKS.cut (κ := Unit) (fun _ => True) (fun _ => []) (fun _ => []) (fun _ => M2) ?_ fun hj => ?_
                · intro _ _
                  refine ok7.go 100 (by kernel_rfl) ?_
                  conv => cbv
                  refine CallS.spec (twinsN_spec (ho.up ElC.up hM2) (by omega) z4) rfl fun B3 M3 v3 hB3 hlt3 hk3 hn3 ⟨a3, k3, ev3, r3⟩ => ⟨SA a3 on k3, rfl, ev3.symm, ?_⟩
                  have hM3 := Mem.le_trans hM2 hk3.le
                  conv => cbv
                  refine .mk bq oq i eaq rfl hi ?_
                  conv => cbv
                  refine .mk pq.avs rfl rfl (CellsAt.le hM3 hpq) ?_
                  conv => cbv
                  have zi := hz _ (List.getElem_mem (show i < cs.length by omega))
                  have zi1 := hck.cuts.len
                  have zi2 := hck.dens.len
                  refine CallS.spec (Spec.frame (twin_spec hck (by omega) (by omega)) hM3) rfl fun B4 M4 v4 hB4 hlt4 hk4 hn4 ⟨N, w1, w2, w3, p1, ev4, h4⟩ => ⟨p1.av, rfl, ev4.symm, ?_⟩
                  have hoff : ∀ g, a3 = some ⟨g, 0, none⟩ → B3 ≤ g → M4 g ≠ none → N g = none := fun g hg hB _ => by
                    obtain ⟨_, ps, Mc, _, _, r4⟩ := r3
                    rcases r4 with ⟨e1, _⟩ | ⟨g', e1, e2, e3, _⟩
                    · rw [e1] at hg; cases hg
                    · rw [hg] at e1
                      cases e1
                      cases hc : N g with
                      | none => rfl
                      | some f =>
                        have := hlt4 g (by rw [e3]; simp)
                        rcases w3 g (by rw [hc]; simp) with e | e
                        · have := hK.lt g e; omega
                        · omega
                  obtain ⟨g, cells, ea3, hBg, hMg, hcl, hrc⟩ := (r3.keep hk4.keep).set (i := i) (by omega) w1 hoff h4
                  subst ea3
                  conv => cbv
                  refine .mk g 0 i rfl rfl (by show i < on; omega) ?_
                  conv => cbv
                  refine .rowM hMg (.inl (by omega)) (by show 0 + i * 3 + 3 ≤ cells.length; omega) rfl (by show spliceV cells (0 + i * 3) p1.cells = _; rw [Nat.zero_add]) fun M5 hM5 => ?_
                  rw [← hM5] at hrc
                  have kp4 : ∀ b, M b ≠ none → M4 b = M b := keep_trans hk1.keep (keep_trans hk2.keep (keep_trans hk3.keep hk4.keep))
                  have kp5 : ∀ b, M b ≠ none → M5 b = M b := by
                    rw [hM5]
                    refine keep_off kp4 ?_
                    cases hc : M g with
                    | none => rfl
                    | some f => have := hK.lt g (by rw [hc]; simp); omega
                  conv => cbv
                  refine CallS.pure (refDesk_spec (qa := none) (qn := 0) (qk := 0) hrc) rfl (EA (deskC (others.set i cs[i]) 0)) rfl rfl ?_
                  conv => cbv
                  refine ⟨fun t1 => ?_, fun t1 => ?_⟩
                  · refine alive fun N hk => ?_
                    conv => cbv
                    exact hK.ground rfl (Keeps.of_keep (keep_trans kp5 hk.keep)) rfl
                  · replace t1 := of_decide_eq_false t1
                    try simp only [nc] at t1
                    try simp only [minF_t] at t1
                    try simp only [minF_f] at t1
                    try dsimp only at t1
                    have t1 : deskC (others.set i cs[i]) 0 = 0 := by omega
                    refine ⟨fun t2 => ?_, fun t2 => ?_⟩
                    · refine alive fun N hk => ?_
                      conv => cbv
                      exact hK.ground rfl (Keeps.of_keep (keep_trans kp5 hk.keep)) rfl
                    · replace t2 := of_decide_eq_false t2
                      try simp only [nc] at t2
                      try simp only [minF_t] at t2
                      try simp only [minF_f] at t2
                      try dsimp only at t2
                      have hh : hasC (others.set i cs[i]).length (i : Nat) = true := by
                        rw [List.length_set, ← hon, hlen]; exact g3
                      have e0 : getC (others.set i cs[i]) ((i : Nat) : Int) = cs[i] := getC_set (by omega) _
                      have hx' : askC valueC (others.set i cs[i]) 0 i a b = x := by
                        rw [askC_eq t1 hh, e0, hv, hV]
                        have k1 : ¬ 2000 ≤ qn := by omega
                        have k2 : ¬ 2000 ≤ 0 := by omega
                        rw [if_neg k1, if_neg k2]
                      have hy' : askC markC (others.set i cs[i]) 0 i a b = y := by
                        rw [askC_eq t1 hh, e0, hu, hP]
                        have k1 : ¬ 2000 ≤ qn := by omega
                        have k2 : ¬ 2000 ≤ 0 := by omega
                        rw [if_neg k1, if_neg k2]
                      have s6 := askValue_spec hrc (RdL.nil' ..) i hag a b ha hbw
                      rw [hx'] at s6
                      refine CallS.spec s6 rfl fun B6 M6 v6 hB6 hlt6 hk6 hn6 ⟨ca6, cn6, ck6, qa6, qn6, qk6, ev6, _, _⟩ => ⟨.tup [DA ca6 cn6 ck6 qa6 qn6 qk6, RA x.1, EA x.2], rfl, ev6.symm, ?_⟩
                      conv => cbv
                      have s7 := askMark_spec (hrc.up ElC.up hk6.le) (RdL.nil' ..) i hag a b ha hbw
                      rw [hy'] at s7
                      refine CallS.spec s7 rfl fun B7 M7 v7 hB7 hlt7 hk7 hn7 ⟨ca7, cn7, ck7, qa7, qn7, qk7, ev7, _, _⟩ => ⟨.tup [DA ca7 cn7 ck7 qa7 qn7 qk7, RA y.1, EA y.2], rfl, ev7.symm, ?_⟩
                      conv => cbv
                      refine ⟨fun _ => ?_, fun k => absurd rfl (of_decide_eq_false k)⟩
                      refine ⟨fun _ => ?_, fun k => absurd rfl (of_decide_eq_false k)⟩
                      refine ⟨fun _ => ?_, fun k => absurd rfl (of_decide_eq_false k)⟩
                      refine ⟨fun _ => ?_, fun k => absurd rfl (of_decide_eq_false k)⟩
                      refine alive fun N hk => ?_
                      conv => cbv
                      exact hK.ground rfl (Keeps.of_keep (keep_trans kp5 (keep_trans hk6.keep (keep_trans hk7.keep hk.keep)))) rfl
                · refine ok7.go 100 (by kernel_rfl) ?_
                  conv => cbv
                  refine ⟨fun e1 => ?_, fun e1 => ?_⟩
                  · replace e1 := of_decide_eq_true e1
                    try simp only [nc] at e1
                    try simp only [minF_t] at e1
                    try simp only [minF_f] at e1
                    try dsimp only at e1
                    rw [if_pos e1] at hl2 q2n
                    refine .i64 ((qn + 1 : Nat) : Int) (by show (qn : Int) + 1 = _; omega) (by omega) (by omega) ?_
                    conv => cbv
                    refine ⟨fun e2 => ?_, fun e2 => ?_⟩
                    · replace e2 := of_decide_eq_true e2
                      try simp only [nc] at e2
                      try simp only [minF_t] at e2
                      try simp only [minF_f] at e2
                      try dsimp only at e2
                      simp at q2n
                      omega
                    · simp at q2n
                      obtain ⟨q', hq'⟩ : ∃ q' : QV, q' = ⟨i, 2, a, b, y.1⟩ := ⟨_, rfl⟩
                      have hl2 : RQ M2 qa2 qn2 qk2 (log ++ [q']) := by rw [hq']; exact hl2
                      obtain ⟨b', o', ea', hp', hw'⟩ := hl2.query (i := qn) (by simp; omega)
                      have hget : (log ++ [q'])[qn]'(by simp; omega) = q' := by
                        rw [List.getElem_append_right (by omega)]
                        simp
                      rw [hget] at hp'
                      refine .mk b' o' qn ea' rfl (by show qn < qn2; omega) ?_
                      conv => cbv
                      refine .mk q'.avs rfl rfl hp' ?_
                      conv => cbv
                      subst hq'
                      refine ⟨fun k => ?_, fun _ => ?_⟩
                      · simp [appU] at k
                      · refine hj () trivial _ ?_
                        refine ⟨by cbv <;> simp, by cbv <;> simp, by cbv, Mem.le_refl _⟩
                  · refine hj () trivial _ ?_
                    refine ⟨by cbv <;> simp, by cbv <;> simp, by cbv, Mem.le_refl _⟩
              · refine ok7.go 100 (by kernel_rfl) ?_
                conv => cbv
                refine ⟨fun e1 => ?_, fun e1 => ?_⟩
                · replace e1 := of_decide_eq_true e1
                  try simp only [nc] at e1
                  try simp only [minF_t] at e1
                  try simp only [minF_f] at e1
                  try dsimp only at e1
                  rw [if_pos e1] at hl1 q1n hc1 c1n
                  refine .i64 ((qn + 1 : Nat) : Int) (by show (qn : Int) + 1 = _; omega) (by omega) (by omega) ?_
                  conv => cbv
                  refine ⟨fun e2 => ?_, fun e2 => ?_⟩
                  · replace e2 := of_decide_eq_true e2
                    try simp only [nc] at e2
                    try simp only [minF_t] at e2
                    try simp only [minF_f] at e2
                    try dsimp only at e2
                    simp at q1n
                    omega
                  · simp at q1n
                    have hcap := hl1.le
                    simp at hcap
                    refine .mk 0 qn qk1 rfl rfl rfl (fun h => by cases h) (Nat.zero_le _) (by omega) (Nat.le_refl _) ?_
                    conv => cbv
                    have hs : RQ M2 (if qk1 = 0 then qa1 else qa1.map (·.add (0 * 8))) (qn - 0) (qk1 - 0) log := by
                      have e : (if qk1 = 0 then qa1 else qa1.map (·.add (0 * 8))) = qa1 := by
                        split
                        · rfl
                        · cases qa1 with
                          | none => rfl
                          | some ad => simp [Addr.add]
                      rw [e]
                      have := (hl1.up ElQ.up hk2.le).take qn (by simp; omega)
                      rw [hqn, List.take_left, ← hqn] at this
                      exact this
                    refine CallS.pure (sameLogs_spec hs q2 (by omega)) rfl .tt rfl (by simp [AV.val, AV.den]) ?_
                    conv => cbv
                    refine CallS.pure (sameCakes_spec (hc1.up ElC.up hk2.le) c2 (by omega) hz) rfl .tt rfl (by simp [AV.val, AV.den]) ?_
                    conv => cbv
                    refine hj () trivial _ ?_
                    refine ⟨by cbv <;> simp, by cbv <;> simp, by cbv, Mem.le_refl _⟩
                · refine hj () trivial _ ?_
                  refine ⟨by cbv <;> simp, by cbv <;> simp, by cbv, Mem.le_refl _⟩
            · refine ok7.go 100 (by kernel_rfl) ?_
              conv => cbv
              repeat' first
                | (refine BrS.mk (fun hh => ?_) (fun hh => ?_) <;> (try simp only [decide_eq_true_eq, decide_eq_false_iff_not, Bool.not_eq_true', Bool.not_eq_false', nc] at hh) <;> (try (exfalso; omega)))
                | (refine Lz.mk ?_; conv => cbv)
                | (refine hj () trivial _ ⟨by cbv <;> simp, by cbv <;> simp, by cbv, Mem.le_refl _⟩)
              all_goals first
                | (have e := fx1 (by omega) (by omega); rw [e] at hh; exact absurd rfl hh)
                | (have e := fy1 (by omega) (by omega); rw [e] at hh; exact absurd rfl hh)

end Go.SX
