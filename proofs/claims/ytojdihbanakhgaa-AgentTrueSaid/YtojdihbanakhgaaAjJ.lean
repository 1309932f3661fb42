/- Layer 36: actors that do not change are honest. -/
import Derived.Test.YtojdihbanakhgaaAjI
import Derived.Test.YtojdihbanakhgaaAhJ
import Derived.Test.YtojdihbanakhgaaSxFn0
namespace Go.SX
open Go.Proofs.Try Go.Proofs

set_option maxHeartbeats 2000000 in
set_option maxRecDepth 100000 in
theorem agentTrue_spec {l : List ActV} {q : List QV} {M : Mem} {a qa : Option Addr} {n k qn qk : Nat} (h : RActs M a n k l) (hq : RQ M qa qn qk q) :
    Spec 12 #[SV a n k, SV qa qn qk] M fun _ _ v => v = .bool true := by
  have hn := h.len
  have hqn := hq.len
  refine ok12.spec 400 [SA a n k, SA qa qn qk] rfl (by kernel_rfl) fun c K hK => ?_
  conv => cbv
  refine CallS.spec (alive36_spec M) rfl fun B0 M0 v0 hB0 hlt0 hk0 hn0 ev0 => ⟨.tt, rfl, ev0.symm, ?_⟩
  conv => cbv
  refine CallS.spec (greatActs_spec (h.up ElA.up hk0.le)) rfl fun B1 M1 v1 hB1 hlt1 hk1 hn1 ev1 => ⟨.sb fun _ => greatA l, rfl, ev1.symm, ?_⟩
  have K1 := keep_trans hk0.keep hk1.keep
  conv => cbv
  refine ⟨fun g1 => hK.ground rfl (Keeps.of_keep K1) rfl, fun g1 => ?_⟩
  refine ⟨fun g2 => ?_, fun g2 => ?_⟩
  · exact hK.ground rfl (Keeps.of_keep K1) rfl
  · replace g2 := of_decide_eq_false g2
    try simp only [nc] at g2
    try simp only [minF_t] at g2
    try simp only [minF_f] at g2
    try dsimp only at g2
    refine CallS.spec (open36_spec (h.up ElA.up (le_of_keep K1))) rfl fun B3 M3 v3 hB3 hlt3 hk3 hn3 ⟨u3, ev3, aa3, ak3, qa3, qk3, eu3, ra3, rq3⟩ => ⟨.tup [MA aa3 (openR l).acts.length ak3 qa3 (openR l).log.length qk3, EA (meetC l [])], rfl, (by rw [ev3, eu3]; rfl), ?_⟩
    have K3 := keep_trans K1 hk3.keep
    conv => cbv
    refine ⟨fun e1 => ?_, fun e1 => ?_⟩
    · exact hK.ground rfl (Keeps.of_keep K3) rfl
    · replace e1 := of_decide_eq_false e1
      try simp only [nc] at e1
      try simp only [minF_t] at e1
      try simp only [minF_f] at e1
      try dsimp only at e1
      have e1 : meetC l [] = 0 := by omega
      have o1 : openR l = ⟨l, []⟩ := by rw [openR, if_pos e1]
      rw [o1] at ra3 rq3
      rw [o1]
      have tr := TrueI.run q ⟨l, []⟩ 0 (TrueI.start e1)
      have er : runR ⟨l, []⟩ q = runM ⟨l, []⟩ q 0 := by rw [runR, if_neg (fun k => k e1), if_neg (by omega)]
      have s4 := run_spec ra3 rq3 (hq.up ElQ.up (le_of_keep K3))
      obtain ⟨r, hr⟩ : ∃ r, runM ⟨l, []⟩ q 0 = r := ⟨_, rfl⟩
      rw [hr] at tr er
      rw [show runR ⟨(⟨l, []⟩ : MtV).acts, (⟨l, []⟩ : MtV).log⟩ q = r from er] at s4
      refine CallS.spec s4 rfl fun B4 M4 v4 hB4 hlt4 hk4 hn4 ⟨u4, ev4, a4, k4, q4, j4, eu4, ra4, rq4⟩ => ⟨.tup [MA a4 r.1.acts.length k4 q4 r.1.log.length j4, EA (r.2.1 : Nat), EA r.2.2], rfl, (by rw [ev4, eu4]; rfl), ?_⟩
      have K4 := keep_trans K3 hk4.keep
      conv => cbv
      obtain ⟨d1, d2, d3, d4, d5⟩ := meetC_ok tr.ok
      have hho : honR r.1 = (honL r.1, 0) := by rw [honR, if_neg (fun k => k tr.ok)]
      obtain ⟨hl, hhl⟩ : ∃ hl, honL r.1 = hl := ⟨_, rfl⟩
      have hll : hl.length = l.length := by rw [← hhl]; simp [honL, tr.len]
      have hrl := tr.len
      have s5 := honest_spec ra4 rq4
      unfold HonPost at s5
      rw [show honR ⟨r.1.acts, r.1.log⟩ = (hl, 0) by rw [← hhl]; exact hho] at s5
      refine CallS.spec s5 rfl fun B5 M5 v5 hB5 hlt5 hk5 hn5 ⟨a5, k5, ev5, rb5⟩ => ⟨.tup [SA a5 hl.length k5, .int .i64 0], rfl, ev5.symm, ?_⟩
      have K5 := keep_trans K4 hk5.keep
      have rb5 : RB M5 a5 hl.length k5 hl := rb5
      conv => cbv
      refine ⟨fun x => absurd (of_decide_eq_true x) (by show ¬ ¬ ((hl.length : Nat) : Int) = (n : Int); omega), fun _ => ?_⟩
      refine ⟨fun x => absurd (of_decide_eq_true x) (by show ¬ ¬ ((r.1.acts.length : Nat) : Int) = (n : Int); omega), fun _ => ?_⟩
      refine OKS.loopH (fun (p : Nat × Mem × Bool) => p.1 ≤ n ∧ (∀ b, M5 b ≠ none → p.2.1 b = M5 b) ∧ p.2.2 = (l.take p.1).all (fun x => decide (x.after = -1)))
        (fun p => [(14, EA p.1), (13, .sb fun _ => p.2.2)]) (fun _ => []) (fun p => p.2.1) (fun p => n - p.1) (0, M5, true) ⟨by simp, fun _ _ => rfl, by simp⟩ ?_ ?_
      · refine ⟨by cbv <;> simp, by cbv <;> simp, by cbv, Mem.le_refl _⟩
      · intro ⟨i, Mi, al⟩ ⟨hi1, hkp, hal⟩ ih
        simp only at hi1 hkp hal
        have hL := h.up ElA.up (le_of_keep (keep_trans K5 hkp))
        refine ok12.go 10 (by kernel_rfl) ?_
        conv => cbv
        refine ⟨fun l1 => ?_, fun l1 => ?_⟩
        · replace l1 := of_decide_eq_true l1
          try simp only [nc] at l1
          try simp only [minF_t] at l1
          try simp only [minF_f] at l1
          try dsimp only at l1
          have hi : i < l.length := by omega
          obtain ⟨b, o, p, ea, hp, hak⟩ := hL.actor hi
          have aft := hak.after
          refine CallS.spec (refOf_spec (rq4.up ElQ.up (Mem.le_trans hk5.le (le_of_keep hkp))) (by omega) (i : Nat)) rfl fun B6 M6 v6 hB6 hlt6 hk6 hn6 ⟨a6, k6, ev6, rq6⟩ => ⟨SA a6 (ofL r.1.log (i : Nat)).length k6, rfl, ev6.symm, ?_⟩
          have hT := tr.right i hi
          have hH := tr.honest hi
          have hHl : ∀ hh : i < hl.length, hl[i] = honB (cakesL r.1.acts false) (ofL r.1.log (i : Nat)) := fun hh => by
            subst hhl
            simp [honL]
          have hol := ofL_le r.1.log (i : Nat)
          obtain ⟨w, hw⟩ : ∃ w, ofL r.1.log (i : Nat) = w := ⟨_, rfl⟩
          rw [hw] at rq6 hT hH hHl hol
          simp only [hw]
          have kp6 := keep_trans hkp hk6.keep
          have hp6 : CellsAt M6 b (o + i * 8) p.cells := hp.le hk6.le
          obtain ⟨x, hx⟩ : ∃ x, l[i] = x := ⟨_, rfl⟩
          rw [hx] at hT hH aft
          conv => cbv
          refine OKS.cut (κ := Unit) (fun _ => True) (fun _ => []) (fun _ => []) (fun _ => M6) ?_ fun hj => ?_
          · intro _ _
            refine ok12.go 1 (by kernel_rfl) ?_
            conv => cbv
            refine OKS.cut (κ := Unit) (fun _ => True) (fun _ => [(13, .sb fun _ => al && decide (x.after = -1))]) (fun _ => []) (fun _ => M6) ?_ fun hj => ?_
            · intro _ _
              refine ok12.go 100 (by kernel_rfl) ?_
              conv => cbv
              refine OKS.loopH (fun (p : Nat × Mem) => p.1 ≤ w.length ∧ (∀ b, M6 b ≠ none → p.2 b = M6 b))
                (fun p => [(16, EA p.1)]) (fun _ => []) (fun p => p.2) (fun p => w.length - p.1) (0, M6) ⟨by simp, fun _ _ => rfl⟩ ?_ ?_
              · refine ⟨by cbv <;> simp, by cbv <;> simp, by cbv, Mem.le_refl _⟩
              · intro ⟨j, Mj⟩ ⟨hj1, kj⟩ ih2
                simp only at hj1 kj
                refine ok12.go 100 (by kernel_rfl) ?_
                conv => cbv
                refine ⟨fun l2 => ?_, fun l2 => ?_⟩
                · replace l2 := of_decide_eq_true l2
                  try simp only [nc] at l2
                  try simp only [minF_t] at l2
                  try simp only [minF_f] at l2
                  try dsimp only at l2
                  have hpj : CellsAt Mj b (o + i * 8) p.cells := hp6.le (le_of_keep kj)
                  obtain ⟨bw, ow, eaw, hpw, hww⟩ := (rq6.up ElQ.up (le_of_keep kj)).query (i := j) (by omega)
                  have hTj := hT j (by omega)
                  refine .mk b o i ea rfl (by show i < n; omega) ?_
                  conv => cbv
                  refine .mk (EA p.after) rfl (AP.at_after hpj) ?_
                  conv => cbv
                  refine ⟨fun t1 => ?_, fun t1 => ?_⟩
                  · replace t1 := of_decide_eq_true t1
                    try simp only [nc] at t1
                    try simp only [minF_t] at t1
                    try simp only [minF_f] at t1
                    try dsimp only at t1
                    refine .mk b o i ea rfl (by show i < n; omega) ?_
                    conv => cbv
                    refine .mk (EA p.after) rfl (AP.at_after hpj) ?_
                    conv => cbv
                    refine .mk bw ow j eaw rfl (by show j < w.length; omega) ?_
                    conv => cbv
                    refine .mk w[j].avs rfl rfl hpw ?_
                    conv => cbv
                    refine CallS.spec (cakes36_spec (hL.up ElA.up (le_of_keep (keep_trans hk6.keep kj))) (by omega) (decide (p.after ≤ (j : Int)))) rfl fun B7 M7 v7 hB7 hlt7 hk7 hn7 ⟨a7, k7, ev7, rc7⟩ => ⟨SA a7 n k7, rfl, ev7.symm, ?_⟩
                    conv => cbv
                    have hr4 := right04_spec rc7 hww
                    rw [show rightC (cakesL l (decide (p.after ≤ (j : Int)))) w[j] = true from (by rw [← hTj, toldAt, ← aft, decide_eq_true t1, Bool.true_and])] at hr4
                    refine CallS.pure hr4 rfl .tt rfl rfl ?_
                    conv => cbv
                    refine .i64 ((j + 1 : Nat) : Int) (by show (j : Int) + 1 = _; omega) (by omega) (by omega) ?_
                    conv => cbv
                    refine ih2 (j + 1, M7) ⟨by simp only; omega, keep_trans kj hk7.keep⟩ (by simp only; omega) _ ?_
                    refine ⟨by cbv <;> simp, by cbv <;> simp, by cbv, Mem.le_refl _⟩
                  · replace t1 := of_decide_eq_false t1
                    try simp only [nc] at t1
                    try simp only [minF_t] at t1
                    try simp only [minF_f] at t1
                    try dsimp only at t1
                    refine .mk bw ow j eaw rfl (by show j < w.length; omega) ?_
                    conv => cbv
                    refine .mk w[j].avs rfl rfl hpw ?_
                    conv => cbv
                    refine CallS.spec (cakes36_spec (hL.up ElA.up (le_of_keep (keep_trans hk6.keep kj))) (by omega) (false)) rfl fun B7 M7 v7 hB7 hlt7 hk7 hn7 ⟨a7, k7, ev7, rc7⟩ => ⟨SA a7 n k7, rfl, ev7.symm, ?_⟩
                    conv => cbv
                    have hr4 := right04_spec rc7 hww
                    rw [show rightC (cakesL l (false)) w[j] = true from (by rw [← hTj, toldAt, ← aft, decide_eq_false t1, Bool.false_and])] at hr4
                    refine CallS.pure hr4 rfl .tt rfl rfl ?_
                    conv => cbv
                    refine .i64 ((j + 1 : Nat) : Int) (by show (j : Int) + 1 = _; omega) (by omega) (by omega) ?_
                    conv => cbv
                    refine ih2 (j + 1, M7) ⟨by simp only; omega, keep_trans kj hk7.keep⟩ (by simp only; omega) _ ?_
                    refine ⟨by cbv <;> simp, by cbv <;> simp, by cbv, Mem.le_refl _⟩
                · replace l2 := of_decide_eq_false l2
                  try simp only [nc] at l2
                  try simp only [minF_t] at l2
                  try simp only [minF_f] at l2
                  try dsimp only at l2
                  refine .i64 ((i + 1 : Nat) : Int) (by show (i : Int) + 1 = _; omega) (by omega) (by omega) ?_
                  conv => cbv
                  refine ih (i + 1, Mj, al && decide (x.after = -1)) ⟨by simp only; omega, keep_trans kp6 kj, ?_⟩ (by simp only; omega) _ ?_
                  · simp only
                    rw [take_snoc (show i < l.length by omega), List.all_append, ← hal, hx]
                    simp
                  · refine ⟨by cbv <;> simp, by cbv <;> simp, by cbv, Mem.le_refl _⟩
            · refine ok12.go 100 (by kernel_rfl) ?_
              conv => cbv
              refine ⟨fun g => ?_, fun g => ?_⟩
              · replace g : al = true := g
                refine .mk b o i ea rfl (by show i < n; omega) ?_
                conv => cbv
                refine .mk (EA p.after) rfl (AP.at_after hp6) ?_
                conv => cbv
                refine hj () trivial _ ?_
                rw [g, Bool.true_and, ← aft]
                refine ⟨by cbv <;> simp, by cbv <;> simp, by cbv, Mem.le_refl _⟩
              · replace g : al = false := g
                refine hj () trivial _ ?_
                rw [g, Bool.false_and]
                refine ⟨by cbv <;> simp, by cbv <;> simp, by cbv, Mem.le_refl _⟩
          · refine ok12.go 100 (by kernel_rfl) ?_
            conv => cbv
            refine .mk b o i ea rfl (by show i < n; omega) ?_
            conv => cbv
            refine .mk (EA p.after) rfl (AP.at_after hp6) ?_
            conv => cbv
            refine ⟨fun t1 => ?_, fun t1 => ?_⟩
            · replace t1 := of_decide_eq_true t1
              try simp only [nc] at t1
              try simp only [minF_t] at t1
              try simp only [minF_f] at t1
              try dsimp only at t1
              obtain ⟨bh, oh, eah, hph⟩ := (rb5.up ElB.up (le_of_keep kp6)).bidx (i := i) (by omega)
              rw [hHl (by omega), hH (.inl (by omega))] at hph
              refine .mk bh oh i eah rfl (by show i < hl.length; omega) ?_
              conv => cbv
              refine .mk .tt rfl hph ?_
              conv => cbv
              refine hj () trivial _ ?_
              refine ⟨by cbv <;> simp, by cbv <;> simp, by cbv, Mem.le_refl _⟩
            · replace t1 := of_decide_eq_false t1
              try simp only [nc] at t1
              try simp only [minF_t] at t1
              try simp only [minF_f] at t1
              try dsimp only at t1
              refine .mk b o i ea rfl (by show i < n; omega) ?_
              conv => cbv
              refine .mk (EA p.after) rfl (AP.at_after hp6) ?_
              conv => cbv
              refine ⟨fun t2 => ?_, fun t2 => ?_⟩
              · replace t2 := of_decide_eq_true t2
                try simp only [nc] at t2
                try simp only [minF_t] at t2
                try simp only [minF_f] at t2
                try dsimp only at t2
                obtain ⟨bh, oh, eah, hph⟩ := (rb5.up ElB.up (le_of_keep kp6)).bidx (i := i) (by omega)
                rw [hHl (by omega), hH (.inr (by omega))] at hph
                refine .mk bh oh i eah rfl (by show i < hl.length; omega) ?_
                conv => cbv
                refine .mk .tt rfl hph ?_
                conv => cbv
                refine hj () trivial _ ?_
                refine ⟨by cbv <;> simp, by cbv <;> simp, by cbv, Mem.le_refl _⟩
              · replace t2 := of_decide_eq_false t2
                try simp only [nc] at t2
                try simp only [minF_t] at t2
                try simp only [minF_f] at t2
                try dsimp only at t2
                refine hj () trivial _ ?_
                refine ⟨by cbv <;> simp, by cbv <;> simp, by cbv, Mem.le_refl _⟩
        · replace l1 := of_decide_eq_false l1
          try simp only [nc] at l1
          try simp only [minF_t] at l1
          try simp only [minF_f] at l1
          try dsimp only at l1
          have ei : l.take i = l := List.take_of_length_le (by omega)
          rw [ei] at hal
          refine ⟨fun g => ?_, fun g => ?_⟩
          · refine ok12.go 100 (by kernel_rfl) ?_
            conv => cbv
            exact hK.ground rfl (Keeps.of_keep (keep_trans K5 hkp)) rfl
          · refine ok12.go 100 (by kernel_rfl) ?_
            conv => cbv
            have g : al = true := by simpa using g
            rw [g] at hal
            have hall : ∀ x ∈ l, x.after = -1 := fun x hx => of_decide_eq_true (List.all_eq_true.1 hal.symm x hx)
            have hrep := tr.replay e1 hall
            refine CallS.spec (cakes36_spec hL (by omega) false) rfl fun B7 M7 v7 hB7 hlt7 hk7 hn7 ⟨a7, k7, ev7, rc7⟩ => ⟨SA a7 n k7, rfl, ev7.symm, ?_⟩
            conv => cbv
            have hs8 := replay_spec rc7 (rq4.up ElQ.up (Mem.le_trans (Mem.le_trans hk5.le (le_of_keep hkp)) hk7.le))
            rw [hrep] at hs8
            refine CallS.pure hs8 rfl (.tup [EA (r.1.log.length : Nat), .int .i64 0]) rfl rfl ?_
            conv => cbv
            exact hK.ground rfl (Keeps.of_keep (keep_trans (keep_trans K5 hkp) hk7.keep)) (by simp; rfl)

end Go.SX
