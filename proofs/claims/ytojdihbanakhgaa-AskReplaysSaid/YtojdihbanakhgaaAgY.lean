/- Law 4: AskReplays. -/
import Derived.Test.YtojdihbanakhgaaAgX
namespace Go.SX
open Go.Proofs.Try Go.Proofs

set_option maxHeartbeats 2000000 in
set_option maxRecDepth 100000 in
theorem askReplays_spec {cs : List CakeV} {log : List QV} {M : Mem} {ca qa : Option Addr} {cn ck qn qk : Nat} (h : RC M ca cn ck cs) (hq : RQ M qa qn qk log) (hb : cn ≤ 9223372036854775807) :
    Spec 6 #[SV ca cn ck, SV qa qn qk] M fun _ _ v => v = .bool true := by
  have hn := h.len
  have hqn := hq.len
  refine ok6.spec 300 [SA ca cn ck, SA qa qn qk] rfl (by kernel_rfl) fun c K hK => ?_
  conv => cbv
  refine CallS.pure (greatCakes_spec h hb) rfl (.sb fun _ => greatL cs) rfl rfl ?_
  conv => cbv
  refine ⟨fun g1 => ?_, fun g1 => ?_⟩
  · refine CallS.spec (alive4_spec M) rfl fun B2 M2 v2 hB2 hlt2 hk2 hn2 hv => ⟨.tt, rfl, hv.symm, ?_⟩
    conv => cbv
    exact hK.ground rfl hk2 rfl
  · refine ⟨fun g2 => ?_, fun g2 => ?_⟩
    · replace g2 := of_decide_eq_true g2
      try simp only [nc] at g2
      try simp only [minF_t] at g2
      try simp only [minF_f] at g2
      try dsimp only at g2
      refine CallS.spec (alive4_spec M) rfl fun B2 M2 v2 hB2 hlt2 hk2 hn2 hv => ⟨.tt, rfl, hv.symm, ?_⟩
      conv => cbv
      exact hK.ground rfl hk2 rfl
    · replace g2 := of_decide_eq_false g2
      try simp only [nc] at g2
      try simp only [minF_t] at g2
      try simp only [minF_f] at g2
      try dsimp only at g2
      refine CallS.spec (ran_spec h hq (by omega)) rfl fun B1 M1 v1 hB1 hlt1 hk1 hn1 ⟨⟨dca, dcn, dck, dqa, dqn, dqk⟩, ev1, hd1⟩ => ⟨.tup [DA dca dcn dck dqa dqn dqk, EA (if deskC cs 0 = 0 then (ranL cs log).length else 0 : Nat), .sb fun _ => decide (deskC cs 0 = 0)], rfl, ev1.symm, ?_⟩
      have h1 := h.up ElC.up hk1.le
      conv => cbv
      refine ⟨fun g3 => ?_, fun g3 => ?_⟩
      · have g3 : deskC cs 0 ≠ 0 := by
          have g3 : (!decide (deskC cs 0 = 0)) = true := g3
          simpa using g3
        refine CallS.pure (refDesk_spec (qa := none) (qn := 0) (qk := 0) h1) rfl (EA (deskC cs 0)) rfl rfl ?_
        conv => cbv
        refine ⟨fun g4 => ?_, fun g4 => absurd g3 (of_decide_eq_false g4)⟩
        refine CallS.spec (alive4_spec M1) rfl fun B2 M2 v2 hB2 hlt2 hk2 hn2 hv => ⟨.tt, rfl, hv.symm, ?_⟩
        conv => cbv
        exact hK.ground rfl (hk1.trans hk2) rfl
      · have g3 : deskC cs 0 = 0 := by
          have g3 : (!decide (deskC cs 0 = 0)) = false := g3
          simpa using g3
        obtain ⟨hdc, hdq⟩ := hd1 g3
        simp only at hdc hdq
        obtain ⟨d1, d2, d3, d4, d5⟩ := deskC_ok g3
        have hz : ∀ c ∈ cs, c.cuts.length ≤ 1000 ∧ c.dens.length ≤ 1000 := fun c hc => by have g := good (d4 c hc); have := g.n2; have := g.n3; omega
        have hright := ranL_right cs log
        have hlen := ranL_len cs log
        obtain ⟨L, hL⟩ : ∃ L, ranL cs log = L := ⟨_, rfl⟩
        rw [hL] at hdq hright hlen
        rw [if_pos g3, hL]
        have hdqn := hdq.len
        have hrep : replayC cs L = (((L.length : Nat) : Int), 0) := by
          unfold replayC
          rw [if_neg (by rw [deskC_n g3 (by omega)]; simp), replL_all L 0 hright, Nat.zero_add]
        have hag : ∀ q ∈ L, hasC cs.length q.ag = true := fun q hq => by
          have := hright q hq
          simp only [rightC, Bool.and_eq_true] at this
          exact this.1.1.1.1
        have hsum := sumC_all cs.length L hag
        have hagain : ranL cs L = L := by
          rw [ranL, fold_again g3 L [] hright (by simp; omega)]
          rfl
        have hcnt : countC L (-1) = (L.length : Nat) := by rw [countC, if_pos rfl]
        refine CallS.pure (replay_spec h1 hdq) rfl (.tup [EA (L.length : Nat), .int .i64 0]) rfl (by rw [hrep]; rfl) ?_
        conv => cbv
        refine ⟨fun k => absurd rfl (of_decide_eq_true k), fun _ => ?_⟩
        refine ⟨fun k => absurd (congrArg Nat.cast hdqn) (of_decide_eq_true k), fun _ => ?_⟩
        refine CallS.pure (count_spec hdq (by omega) (-1)) rfl (EA (L.length : Nat)) rfl (by rw [hcnt]; rfl) ?_
        conv => cbv
        refine ⟨fun k => absurd rfl (of_decide_eq_true k), fun _ => ?_⟩
        have hdcn := hdc.len
        refine CallS.pure (sameCakes_spec hdc h1 (by omega) hz) rfl .tt rfl (by simp [AV.val, AV.den]) ?_
        conv => cbv
        refine OKS.loopH (fun i => i ≤ cn) (fun i => [(10, EA (sumC L i : Nat)), (11, EA i)]) (fun _ => []) (fun _ => M1) (fun i => cn - i) 0 (by omega) ?_ ?_
        · refine ⟨by cbv <;> simp [sumC], by cbv <;> simp, by cbv, Mem.le_refl _⟩
        · intro i hi1 ih
          have hs1 := sumC_le L i
          have hs2 := sumC_le L (i + 1)
          refine ok6.go 100 (by kernel_rfl) ?_
          conv => cbv
          refine ⟨fun l1 => ?_, fun l1 => ?_⟩
          · replace l1 := of_decide_eq_true l1
            try simp only [nc] at l1
            try simp only [minF_t] at l1
            try simp only [minF_f] at l1
            try dsimp only at l1
            refine CallS.pure (count_spec hdq (by omega) (i : Nat)) rfl (EA (cntL L (i : Nat) : Nat)) rfl (by rw [countC, if_neg (by omega)]; rfl) ?_
            conv => cbv
            have hm1 : i * L.length ≤ 6 * 30 := Nat.mul_le_mul (by omega) (by omega)
            have hm2 : (i + 1) * L.length ≤ 7 * 30 := Nat.mul_le_mul (by omega) (by omega)
            refine .i64 ((sumC L (i + 1) : Nat) : Int) (by show ((sumC L i : Nat) : Int) + ((cntL L (i : Nat) : Nat) : Int) = _; rw [sumC]; exact (Int.natCast_add _ _).symm) (by omega) (by omega) ?_
            conv => cbv
            refine .i64 ((i + 1 : Nat) : Int) (by show (i : Int) + 1 = _; omega) (by omega) (by omega) ?_
            conv => cbv
            refine ih (i + 1) (by show i + 1 ≤ cn; omega) (by show cn - (i + 1) < cn - i; omega) _ ?_
            refine ⟨by cbv <;> simp, by cbv <;> simp, by cbv, Mem.le_refl _⟩
          · replace l1 := of_decide_eq_false l1
            try simp only [nc] at l1
            try simp only [minF_t] at l1
            try simp only [minF_f] at l1
            try dsimp only at l1
            have : i = cs.length := by omega
            subst this
            rw [hsum]
            refine CallS.spec (ran_spec h1 hdq (by omega)) rfl fun B3 M3 v3 hB3 hlt3 hk3 hn3 ⟨⟨eca, ecn, eck, eqa, eqn, eqk⟩, ev3, hd3⟩ => ⟨.tup [DA eca ecn eck eqa eqn eqk, EA (L.length : Nat), .tt], rfl, (by rw [ev3, if_pos g3, decide_eq_true g3, hagain]; rfl), ?_⟩
            obtain ⟨hec, heq⟩ := hd3 g3
            rw [hagain] at heq
            simp only at hec heq
            have heqn := heq.len
            conv => cbv
            refine ⟨fun _ => ?_, fun k => absurd rfl (of_decide_eq_false k)⟩
            refine ⟨fun _ => ?_, fun k => absurd rfl (of_decide_eq_false k)⟩
            refine CallS.pure (sameLogs_spec heq (hdq.up ElQ.up hk3.le) (by omega)) rfl .tt rfl (by simp [AV.val, AV.den]) ?_
            conv => cbv
            refine CallS.spec (alive4_spec M3) rfl fun B2 M2 v2 hB2 hlt2 hk2 hn2 hv => ⟨.tt, rfl, hv.symm, ?_⟩
            conv => cbv
            exact hK.ground rfl ((hk1.trans hk3).trans hk2) rfl

end Go.SX
