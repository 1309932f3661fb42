/- Law 36: AgentParts. -/
import Derived.Test.YtojdihbanakhgaaAhJ
import Derived.Test.YtojdihbanakhgaaAhK
import Derived.Test.YtojdihbanakhgaaAhC
import Derived.Test.YtojdihbanakhgaaSxFn0
namespace Go.SX
open Go.Proofs.Try Go.Proofs

theorem hz_of {acts : List ActV} {log : List QV} (h : meetC acts log = 0) : ∀ x ∈ acts, x.own.cuts.length ≤ 1000 ∧ x.own.dens.length ≤ 1000 ∧ x.told.cuts.length ≤ 1000 ∧ x.told.dens.length ≤ 1000 := (small_of h).z

theorem unansw_eq {x y : QV} (h : unansw x = unansw y) : x.ag = y.ag ∧ x.kind = y.kind ∧ x.a = y.a ∧ x.b = y.b := by
  unfold unansw at h
  have := congrArg QV.ag h
  have := congrArg QV.kind h
  have := congrArg QV.a h
  have := congrArg QV.b h
  simp_all

set_option maxHeartbeats 2000000 in
set_option maxRecDepth 100000 in
theorem agentParts_spec {acts : List ActV} {log l : List QV} {M : Mem} {aa qa la : Option Addr} {an ak qn qk ln lk : Nat} (h : RActs M aa an ak acts) (hq : RQ M qa qn qk log) (hl : RQ M la ln lk l) (at_ : Int) (_hat : I64 at_) :
    Spec 13 #[MV aa an ak qa qn qk, SV la ln lk, EV at_] M fun _ _ v => v = .bool true := by
  have hn := h.len
  have hqn := hq.len
  have hln := hl.len
  refine ok13.spec 400 [MA aa an ak qa qn qk, SA la ln lk, EA at_] rfl (by kernel_rfl) fun c K hK => ?_
  conv => cbv
  refine CallS.spec (alive36_spec M) rfl fun B0 M0 v0 hB0 hlt0 hk0 hn0 ev0 => ⟨.tt, rfl, ev0.symm, ?_⟩
  conv => cbv
  refine CallS.spec (greatMeet_spec (h.up ElA.up hk0.le) (qa := qa) (qn := qn) (qk := qk)) rfl fun B1 M1 v1 hB1 hlt1 hk1 hn1 ev1 => ⟨.sb fun _ => greatM acts qn, rfl, ev1.symm, ?_⟩
  have K1 := keep_trans hk0.keep hk1.keep
  conv => cbv
  refine ⟨fun g1 => ?_, fun g1 => ?_⟩
  · exact hK.ground rfl (Keeps.of_keep K1) rfl
  · refine CallS.spec (refMeet_spec (h.up ElA.up (le_of_keep K1)) (hq.up ElQ.up (le_of_keep K1))) rfl fun B2 M2 v2 hB2 hlt2 hk2 hn2 ev2 => ⟨EA (meetC acts log), rfl, ev2.symm, ?_⟩
    have K2 := keep_trans K1 hk2.keep
    conv => cbv
    refine ⟨fun g2 => ?_, fun g2 => ?_⟩
    · exact hK.ground rfl (Keeps.of_keep K2) rfl
    · replace g2 := of_decide_eq_false g2
      try simp only [nc] at g2
      try simp only [minF_t] at g2
      try simp only [minF_f] at g2
      try dsimp only at g2
      have g2 : meetC acts log = 0 := by omega
      obtain ⟨d1, d2, d3, d4, d5⟩ := meetC_ok g2
      refine ⟨fun g3 => ?_, fun g3 => ?_⟩
      · exact hK.ground rfl (Keeps.of_keep K2) rfl
      · replace g3 := of_decide_eq_false g3
        try simp only [nc] at g3
        try simp only [minF_t] at g3
        try simp only [minF_f] at g3
        try dsimp only at g3
        refine ⟨fun g4 => ?_, fun g4 => ?_⟩
        · exact hK.ground rfl (Keeps.of_keep K2) rfl
        · replace g4 := of_decide_eq_false g4
          try simp only [nc] at g4
          try simp only [minF_t] at g4
          try simp only [minF_f] at g4
          try dsimp only at g4
          refine ⟨fun g5 => ?_, fun g5 => ?_⟩
          · exact hK.ground rfl (Keeps.of_keep K2) rfl
          · replace g5 := of_decide_eq_false g5
            try simp only [nc] at g5
            try simp only [minF_t] at g5
            try simp only [minF_f] at g5
            try dsimp only at g5
            obtain ⟨k, rfl⟩ : ∃ k : Nat, at_ = (k : Int) := ⟨at_.toNat, by omega⟩
            have hkl : k ≤ l.length := by omega
            have rk := runM_ok l ⟨acts, log⟩ 0
            have rk2 := runM_ok (l.take k) ⟨acts, log⟩ 0
            have eR1 : runR ⟨acts, log⟩ l = runM ⟨acts, log⟩ l 0 := by rw [runR, if_neg (fun e => e g2), if_neg (by omega)]
            have eR2 : runR ⟨acts, log⟩ (l.take k) = runM ⟨acts, log⟩ (l.take k) 0 := by rw [runR, if_neg (fun e => e g2), if_neg (by rw [List.length_take]; omega)]
            have hsplit := runM_app (l.take k) (l.drop k) ⟨acts, log⟩ 0
            rw [List.take_append_drop] at hsplit
            obtain ⟨ra, hra⟩ : ∃ ra, runM ⟨acts, log⟩ l 0 = ra := ⟨_, rfl⟩
            obtain ⟨rb, hrb⟩ : ∃ rb, runM ⟨acts, log⟩ (l.take k) 0 = rb := ⟨_, rfl⟩
            rw [hra] at rk eR1 hsplit
            rw [hrb] at rk2 eR2 hsplit
            obtain ⟨a1, a2, a3, ⟨L, a4, a5, a6⟩, a7, a8, a9⟩ := rk
            obtain ⟨b1, b2, b3, _, b7, b8, b9⟩ := rk2
            have a9 := a9 g2
            have b9 := b9 g2
            have tk : (l.take k).length = k := by rw [List.length_take]; omega
            rw [tk] at b2 b3 hsplit
            simp only [Nat.zero_add, Nat.sub_zero] at a2 a3 a5 b2 b3 hsplit
            simp only at a4 a6 a7 a8 b7 b8
            have hz1 := hz_of a9
            have hz2 := hz_of b9
            obtain ⟨f1, f2, f3, f4, f5⟩ := meetC_ok a9
            obtain ⟨e1, e2, e3, e4, e5⟩ := meetC_ok b9
            have s1 := run_spec (h.up ElA.up (le_of_keep K2)) (hq.up ElQ.up (le_of_keep K2)) (hl.up ElQ.up (le_of_keep K2))
            rw [eR1] at s1
            refine CallS.spec s1 rfl fun B3 M3 v3 hB3 hlt3 hk3 hn3 ⟨u3, ev3, aa3, ak3, qa3, qk3, eu3, ra3, rq3⟩ => ⟨.tup [MA aa3 ra.1.acts.length ak3 qa3 ra.1.log.length qk3, EA (ra.2.1 : Nat), EA ra.2.2], rfl, (by rw [ev3, eu3]; rfl), ?_⟩
            have K3 := keep_trans K2 hk3.keep
            conv => cbv
            refine .mk 0 k lk rfl rfl rfl (fun h => by cases h) (Nat.zero_le _) (by have := hl.le; omega) (Nat.le_refl _) ?_
            conv => cbv
            have s2 := run_spec (h.up ElA.up (le_of_keep K3)) (hq.up ElQ.up (le_of_keep K3)) ((hl.up ElQ.up (le_of_keep K3)).slicePre k hkl)
            rw [eR2] at s2
            refine CallS.spec s2 rfl fun B4 M4 v4 hB4 hlt4 hk4 hn4 ⟨u4, ev4, aa4, ak4, qa4, qk4, eu4, ra4, rq4⟩ => ⟨.tup [MA aa4 rb.1.acts.length ak4 qa4 rb.1.log.length qk4, EA (rb.2.1 : Nat), EA rb.2.2], rfl, (by rw [ev4, eu4]; rfl), ?_⟩
            have K4 := keep_trans K3 hk4.keep
            have ra3 := ra3.up ElA.up hk4.le
            have rq3 := rq3.up ElQ.up hk4.le
            conv => cbv
            refine ⟨fun x => absurd (of_decide_eq_true x) (by show ¬ ((ra.2.1 : Nat) : Int) < 0; omega), fun _ => .mk ?_⟩
            conv => cbv
            refine ⟨fun x => absurd (of_decide_eq_true x) (by show ¬ (ln : Int) < ((ra.2.1 : Nat) : Int); omega), fun _ => .mk ?_⟩
            conv => cbv
            refine ⟨fun x => absurd (of_decide_eq_true x) (by show ¬ ((rb.2.1 : Nat) : Int) < 0; omega), fun _ => .mk ?_⟩
            conv => cbv
            refine ⟨fun x => absurd (of_decide_eq_true x) (by show ¬ (k : Int) < ((rb.2.1 : Nat) : Int); omega), fun _ => .mk ?_⟩
            conv => cbv
            have q1 : decide (ra.2.2 = 0) = decide (((ra.2.1 : Nat) : Int) = (ln : Int)) := decide_eq_decide.2 (by rw [a3]; omega)
            have q2 : decide (rb.2.2 = 0) = decide (((rb.2.1 : Nat) : Int) = (k : Int)) := decide_eq_decide.2 (by rw [b3]; omega)
            refine ⟨fun x => ?_, fun _ => .mk ?_⟩
            · have x : (decide (ra.2.2 = 0) != decide (((ra.2.1 : Nat) : Int) = (ln : Int))) = true := x
              rw [q1] at x
              simp at x
            conv => cbv
            refine ⟨fun x => ?_, fun _ => .mk ?_⟩
            · have x : (decide (rb.2.2 = 0) != decide (((rb.2.1 : Nat) : Int) = (k : Int))) = true := x
              rw [q2] at x
              simp at x
            conv => cbv
            have alen : ra.1.log.length = log.length + ra.2.1 := by rw [a4, List.length_append, a5]
            refine .i64 ((qn + ra.2.1 : Nat) : Int) (by show (qn : Int) + ((ra.2.1 : Nat) : Int) = _; omega) (by omega) (by omega) ?_
            conv => cbv
            refine ⟨fun x => absurd (of_decide_eq_true x) (by show ¬ ¬ ((ra.1.log.length : Nat) : Int) = ((qn + ra.2.1 : Nat) : Int); omega), fun _ => .mk ?_⟩
            conv => cbv
            refine CallS.spec (meetCheck_spec ra3 rq3) rfl fun B5 M5 v5 hB5 hlt5 hk5 hn5 ev5 => ⟨.int .i64 0, rfl, (by rw [ev5, a9]; rfl), ?_⟩
            have K5 := keep_trans K4 hk5.keep
            have ra3 := ra3.up ElA.up hk5.le
            have rq3 := rq3.up ElQ.up hk5.le
            have ra4 := ra4.up ElA.up hk5.le
            have rq4 := rq4.up ElQ.up hk5.le
            have h5 := h.up ElA.up (le_of_keep K5)
            have l5 := hl.up ElQ.up (le_of_keep K5)
            conv => cbv
            refine OKS.loopH (fun i => i ≤ ra.2.1) (fun i => [(14, EA i)]) (fun _ => [(15, .none)]) (fun _ => M5) (fun i => ra.2.1 - i) 0 (by omega) ?_ ?_
            · refine ⟨by cbv <;> simp, by cbv <;> simp, by cbv, Mem.le_refl _⟩
            · intro i hi1 ih
              refine ok13.go 100 (by kernel_rfl) ?_
              conv => cbv
              refine ⟨fun l1 => ?_, fun l1 => ?_⟩
              · replace l1 := of_decide_eq_true l1
                try simp only [nc] at l1
                try simp only [minF_t] at l1
                try simp only [minF_f] at l1
                try dsimp only at l1
                refine .i64 ((qn + i : Nat) : Int) (by show (qn : Int) + (i : Int) = _; omega) (by omega) (by omega) ?_
                conv => cbv
                obtain ⟨bq, oq, eaq, hpq, hwq⟩ := rq3.query (i := qn + i) (by omega)
                obtain ⟨bl, ol, eal, hpl, hwl⟩ := l5.query (i := i) (by omega)
                have hun : unansw (ra.1.log[qn + i]'(by omega)) = unansw l[i] := by
                  have e0 : (ra.1.log[qn + i]'(by omega)) = L[i]'(by omega) := by
                    simp only [a4]
                    rw [List.getElem_append_right (by omega)]
                    congr 1
                    omega
                  rw [e0]
                  exact a6 i (by omega) (by omega)
                obtain ⟨u1, u2, u3, u4⟩ := unansw_eq hun
                obtain ⟨q', hq'⟩ : ∃ q', (ra.1.log[qn + i]'(by omega)) = q' := ⟨_, rfl⟩
                rw [hq'] at hpq u1 u2 u3 u4
                refine .mk bq oq (qn + i) eaq rfl (by show qn + i < ra.1.log.length; omega) ?_
                conv => cbv
                refine .mk q'.avs rfl rfl hpq ?_
                conv => cbv
                refine .mk bl ol i eal rfl (by show i < ln; omega) ?_
                conv => cbv
                refine .mk [EA l[i].ans.n, EA l[i].ans.d] rfl rfl ⟨hpl.2.2.2.2.2.2.1, hpl.2.2.2.2.2.2.2.1, trivial⟩ ?_
                conv => cbv
                refine .mk bl ol i eal rfl (by show i < ln; omega) ?_
                conv => cbv
                refine .mk l[i].avs rfl rfl hpl ?_
                conv => cbv
                refine ⟨fun x => ?_, fun _ => ?_⟩
                · simp [appU, u1, u2, u3, u4] at x
                · refine .i64 ((i + 1 : Nat) : Int) (by show (i : Int) + 1 = _; omega) (by omega) (by omega) ?_
                  conv => cbv
                  refine ih (i + 1) (by show i + 1 ≤ ra.2.1; omega) (by show ra.2.1 - (i + 1) < ra.2.1 - i; omega) _ ?_
                  refine ⟨by cbv <;> simp, by cbv <;> simp, by cbv, Mem.le_refl _⟩
              · replace l1 := of_decide_eq_false l1
                try simp only [nc] at l1
                try simp only [minF_t] at l1
                try simp only [minF_f] at l1
                try dsimp only at l1
                refine OKS.loopH (fun i => i ≤ an) (fun i => [(16, EA i)]) (fun _ => []) (fun _ => M5) (fun i => an - i) 0 (by omega) ?_ ?_
                · refine ⟨by cbv <;> simp, by cbv <;> simp, by cbv, Mem.le_refl _⟩
                · intro i hi1 ih
                  refine ok13.go 100 (by kernel_rfl) ?_
                  conv => cbv
                  have fin : ∀ {s : S} {stk : List It}, OKS 13 c K stk s → OKS 13 c K stk s := fun h => h
                  refine ⟨fun l1 => ?_, fun l1 => ?_⟩
                  · replace l1 := of_decide_eq_true l1
                    try simp only [nc] at l1
                    try simp only [minF_t] at l1
                    try simp only [minF_f] at l1
                    try dsimp only at l1
                    refine ⟨fun l2 => ?_, fun l2 => ?_⟩
                    · replace l2 := of_decide_eq_true l2
                      try simp only [nc] at l2
                      try simp only [minF_t] at l2
                      try simp only [minF_f] at l2
                      try dsimp only at l2
                      obtain ⟨b', o', p', ea', hp', hak'⟩ := ra3.actor (i := i) (by omega)
                      obtain ⟨b, o, p, ea, hp, hak⟩ := h5.actor (i := i) (by omega)
                      obtain ⟨w1, w2, w3⟩ := a8 i (by omega) (by omega)
                      have z := hz1 _ (List.getElem_mem (show i < ra.1.acts.length by omega))
                      have z1 := hak'.own.cuts.len
                      have z2 := hak'.own.dens.len
                      refine .mk b' o' i ea' rfl (by show i < ra.1.acts.length; omega) ?_
                      conv => cbv
                      refine .mk p'.own.avs rfl rfl (AP.at_own hp') ?_
                      conv => cbv
                      refine .mk b o i ea rfl (by show i < an; omega) ?_
                      conv => cbv
                      refine .mk p.own.avs rfl rfl (AP.at_own hp) ?_
                      conv => cbv
                      refine CallS.pure (same_spec hak'.own hak.own (by omega) (by omega)) rfl .tt rfl (by rw [w1, decide_eq_true rfl]; rfl) ?_
                      conv => cbv
                      refine .mk b' o' i ea' rfl (by show i < ra.1.acts.length; omega) ?_
                      conv => cbv
                      refine .mk (EA p'.after) rfl (AP.at_after hp') ?_
                      conv => cbv
                      refine .mk b o i ea rfl (by show i < an; omega) ?_
                      conv => cbv
                      refine .mk (EA p.after) rfl (AP.at_after hp) ?_
                      conv => cbv
                      have y1 := hak'.after
                      have y2 := hak.after
                      refine ⟨fun l3 => ?_, fun l3 => ?_⟩
                      · replace l3 := of_decide_eq_true l3
                        try simp only [nc] at l3
                        try simp only [minF_t] at l3
                        try simp only [minF_f] at l3
                        try dsimp only at l3
                        omega
                      · refine .i64 ((i + 1 : Nat) : Int) (by show (i : Int) + 1 = _; omega) (by omega) (by omega) ?_
                        conv => cbv
                        refine ih (i + 1) (by show i + 1 ≤ an; omega) (by show an - (i + 1) < an - i; omega) _ ?_
                        refine ⟨by cbv <;> simp, by cbv <;> simp, by cbv, Mem.le_refl _⟩
                    · replace l2 := of_decide_eq_false l2
                      try simp only [nc] at l2
                      try simp only [minF_t] at l2
                      try simp only [minF_f] at l2
                      try dsimp only at l2
                      omega
                  · replace l1 := of_decide_eq_false l1
                    try simp only [nc] at l1
                    try simp only [minF_t] at l1
                    try simp only [minF_f] at l1
                    try dsimp only at l1
                    clear fin
                    refine ⟨fun m1 => ?_, fun m1 => ?_⟩
                    · replace m1 := of_decide_eq_true m1
                      try simp only [nc] at m1
                      try simp only [minF_t] at m1
                      try simp only [minF_f] at m1
                      try dsimp only at m1
                      rw [if_pos m1] at hsplit
                      subst hsplit
                      refine CallS.pure (sameMeet_spec ra3 rq3 ra4 rq4 (by omega) (by omega) hz1) rfl .tt rfl (by rw [decide_eq_true ⟨rfl, rfl⟩]; rfl) ?_
                      conv => cbv
                      refine ⟨fun _ => ?_, fun x => absurd rfl (of_decide_eq_false x)⟩
                      refine hK.ground rfl (Keeps.of_keep K5) ?_
                      simp [AV.val, AV.den]
                    · replace m1 := of_decide_eq_false m1
                      try simp only [nc] at m1
                      try simp only [minF_t] at m1
                      try simp only [minF_f] at m1
                      try dsimp only at m1
                      have m1 : rb.2.2 = 0 := by omega
                      rw [if_neg (by omega)] at hsplit
                      have hkb : rb.2.1 = k := b3.1 m1
                      have hsh := runM_shift (l.drop k) rb.1 k
                      rw [← hsplit] at hsh
                      have eR3 : runR ⟨rb.1.acts, rb.1.log⟩ (l.drop k) = runM rb.1 (l.drop k) 0 := by
                        rw [runR, if_neg (fun e => e b9), if_neg (by rw [List.length_drop]; omega)]
                      obtain ⟨rc, hrc⟩ : ∃ rc, runM rb.1 (l.drop k) 0 = rc := ⟨_, rfl⟩
                      rw [hrc] at hsh eR3
                      subst hsh
                      simp only at *
                      refine .mk k ln lk rfl rfl rfl (fun h => by cases h) (by omega) (by have := hl.le; omega) (Nat.le_refl _) ?_
                      conv => cbv
                      have s6 := run_spec ra4 rq4 (l5.sliceSuf k hkl)
                      rw [eR3] at s6
                      refine CallS.spec s6 rfl fun B6 M6 v6 hB6 hlt6 hk6 hn6 ⟨u6, ev6, aa6, ak6, qa6, qk6, eu6, ra6, rq6⟩ => ⟨.tup [MA aa6 rc.1.acts.length ak6 qa6 rc.1.log.length qk6, EA (rc.2.1 : Nat), EA rc.2.2], rfl, (by rw [ev6, eu6]; rfl), ?_⟩
                      have K6 := keep_trans K5 hk6.keep
                      conv => cbv
                      refine CallS.pure (sameMeet_spec ra6 rq6 (ra3.up ElA.up hk6.le) (rq3.up ElQ.up hk6.le) (by omega) (by omega) hz1) rfl .tt rfl (by rw [decide_eq_true ⟨rfl, rfl⟩]; rfl) ?_
                      conv => cbv
                      refine .i64 ((rc.2.1 : Nat) : Int) (by show ((k + rc.2.1 : Nat) : Int) - (k : Int) = _; omega) (by omega) (by omega) ?_
                      conv => cbv
                      refine ⟨fun _ => ?_, fun x => absurd rfl (of_decide_eq_false x)⟩
                      refine hK.ground rfl (Keeps.of_keep K6) ?_
                      simp [AV.val, AV.den]

end Go.SX
