/- Layer 36: runs and queries of one are what the reference says. -/
import Derived.Test.YtojdihbanakhgaaRefAsk
import Derived.Test.YtojdihbanakhgaaAhL
import Derived.Test.YtojdihbanakhgaaAgU
import Derived.Test.YtojdihbanakhgaaSxFn0
namespace Go.SX
open Go.Proofs.Try Go.Proofs

theorem runR_small (m : MtV) (l : List QV) : (runR m l).1.acts.length ≤ 6 ∧ (runR m l).1.log.length ≤ 2000 ∧ ∀ x ∈ (runR m l).1.acts, x.own.cuts.length ≤ 1000 ∧ x.own.dens.length ≤ 1000 ∧ x.told.cuts.length ≤ 1000 ∧ x.told.dens.length ≤ 1000 := by
  unfold runR
  split
  · simp [mt0]
  · rename_i h1
    split
    · simp [mt0]
    · have rk := runM_ok l m 0
      obtain ⟨a1, a2, a3, _, a7, a8, a9⟩ := rk
      have a9 := a9 (by omega)
      obtain ⟨f1, f2, f3, f4, f5⟩ := meetC_ok a9
      exact ⟨f2, f3, hz_of a9⟩

set_option maxHeartbeats 1000000 in
set_option maxRecDepth 100000 in
theorem agentRuns_spec {acts : List ActV} {log l : List QV} {M : Mem} {aa qa la : Option Addr} {an ak qn qk ln lk : Nat} (h : RActs M aa an ak acts) (hq : RQ M qa qn qk log) (hl : RQ M la ln lk l) (who : Int) (_hw : I64 who) :
    Spec 3 #[MV aa an ak qa qn qk, SV la ln lk, EV who] M fun _ _ v => v = .bool true := by
  have hn := h.len
  have hqn := hq.len
  have hln := hl.len
  refine ok3.spec 3 [MA aa an ak qa qn qk, SA la ln lk, EA who] rfl (by kernel_rfl) fun c K hK => ?_
  conv => cbv
  refine OKS.cut (κ := Mem) (fun M1 => ln ≤ 2010 ∧ ∀ b, M b ≠ none → M1 b = M b) (fun _ => []) (fun _ => []) (fun M1 => M1) ?_ fun hj => ?_
  · intro M1 ⟨hle, K1⟩
    refine ok3.go 100 (by kernel_rfl) ?_
    conv => cbv
    obtain ⟨z1, z2, z3⟩ := runR_small ⟨acts, log⟩ l
    obtain ⟨r, hr⟩ : ∃ r, runR ⟨acts, log⟩ l = r := ⟨_, rfl⟩
    rw [hr] at z1 z2 z3
    have s1 := run_spec (h.up ElA.up (le_of_keep K1)) (hq.up ElQ.up (le_of_keep K1)) (hl.up ElQ.up (le_of_keep K1))
    rw [hr] at s1
    refine CallS.spec s1 rfl fun B2 M2 v2 hB2 hlt2 hk2 hn2 ⟨u2, ev2, a2, k2, q2, j2, eu2, ra2, rq2⟩ => ⟨.tup [MA a2 r.1.acts.length k2 q2 r.1.log.length j2, EA (r.2.1 : Nat), EA r.2.2], rfl, (by rw [ev2, eu2]; rfl), ?_⟩
    have K2 := keep_trans K1 hk2.keep
    conv => cbv
    have s2 := refRun_spec (h.up ElA.up (le_of_keep K2)) (hq.up ElQ.up (le_of_keep K2)) (hl.up ElQ.up (le_of_keep K2))
    rw [hr] at s2
    refine CallS.spec s2 rfl fun B3 M3 v3 hB3 hlt3 hk3 hn3 ⟨u3, ev3, a3, k3, q3, j3, eu3, ra3, rq3⟩ => ⟨.tup [MA a3 r.1.acts.length k3 q3 r.1.log.length j3, EA (r.2.1 : Nat), EA r.2.2], rfl, (by rw [ev3, eu3]; rfl), ?_⟩
    have K3 := keep_trans K2 hk3.keep
    conv => cbv
    refine CallS.pure (sameMeet_spec (ra2.up ElA.up hk3.le) (rq2.up ElQ.up hk3.le) ra3 rq3 (by omega) (by omega) z3) rfl .tt rfl (by simp; rfl) ?_
    conv => cbv
    refine ⟨fun _ => ?_, fun k => absurd (by simp) (of_decide_eq_false k)⟩
    refine ⟨fun _ => ?_, fun k => absurd (by simp) (of_decide_eq_false k)⟩
    refine CallS.spec (of_spec (hl.up ElQ.up (le_of_keep K3)) (by omega) who) rfl fun B4 M4 v4 hB4 hlt4 hk4 hn4 ⟨a4, k4, ev4, rq4⟩ => ⟨SA a4 (ofL l who).length k4, rfl, ev4.symm, ?_⟩
    have K4 := keep_trans K3 hk4.keep
    conv => cbv
    refine CallS.spec (refOf_spec (hl.up ElQ.up (le_of_keep K4)) (by omega) who) rfl fun B5 M5 v5 hB5 hlt5 hk5 hn5 ⟨a5, k5, ev5, rq5⟩ => ⟨SA a5 (ofL l who).length k5, rfl, ev5.symm, ?_⟩
    have K5 := keep_trans K4 hk5.keep
    conv => cbv
    have hle := ofL_le l who
    refine CallS.pure (sameLogs_spec (rq4.up ElQ.up hk5.le) rq5 (by omega)) rfl .tt rfl (by simp; rfl) ?_
    conv => cbv
    exact hK.ground rfl (Keeps.of_keep K5) rfl
  · refine ok3.go 100 (by kernel_rfl) ?_
    conv => cbv
    refine CallS.spec (greatMeet_spec h (qa := qa) (qn := qn) (qk := qk)) rfl fun B1 M1 v1 hB1 hlt1 hk1 hn1 ev1 => ⟨.sb fun _ => greatM acts qn, rfl, ev1.symm, ?_⟩
    have K1 := hk1.keep
    conv => cbv
    refine ⟨fun g1 => hK.ground rfl hk1 rfl, fun g1 => ?_⟩
    refine ⟨fun g2 => ?_, fun g2 => ?_⟩
    · replace g2 := of_decide_eq_true g2
      try simp only [nc] at g2
      try simp only [minF_t] at g2
      try simp only [minF_f] at g2
      try dsimp only at g2
      refine ⟨fun g3 => ?_, fun g3 => ?_⟩
      · exact hK.ground rfl hk1 rfl
      · replace g3 := of_decide_eq_false g3
        try simp only [nc] at g3
        try simp only [minF_t] at g3
        try simp only [minF_f] at g3
        try dsimp only at g3
        refine ⟨fun g4 => ?_, fun g4 => ?_⟩
        · exact hK.ground rfl hk1 rfl
        · replace g4 := of_decide_eq_false g4
          try simp only [nc] at g4
          try simp only [minF_t] at g4
          try simp only [minF_f] at g4
          try dsimp only at g4
          refine hj M1 ⟨by omega, K1⟩ _ ?_
          refine ⟨by cbv <;> simp, by cbv <;> simp, by cbv, Mem.le_refl _⟩
    · replace g2 := of_decide_eq_false g2
      try simp only [nc] at g2
      try simp only [minF_t] at g2
      try simp only [minF_f] at g2
      try dsimp only at g2
      refine ⟨fun g4 => ?_, fun g4 => ?_⟩
      · exact hK.ground rfl hk1 rfl
      · replace g4 := of_decide_eq_false g4
        try simp only [nc] at g4
        try simp only [minF_t] at g4
        try simp only [minF_f] at g4
        try dsimp only at g4
        refine hj M1 ⟨by omega, K1⟩ _ ?_
        refine ⟨by cbv <;> simp, by cbv <;> simp, by cbv, Mem.le_refl _⟩

end Go.SX
