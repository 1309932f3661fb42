/- Law 4: asking a list of queries. -/
import Derived.Test.YtojdihbanakhgaaAgW
namespace Go.SX
open Go.Proofs.Try Go.Proofs

/-- A desk's parts. -/
structure DP where
  ca : Option Addr
  cn : Nat
  ck : Nat
  qa : Option Addr
  qn : Nat
  qk : Nat

set_option maxHeartbeats 2000000 in
set_option maxRecDepth 100000 in
theorem ran_spec {cs : List CakeV} {log : List QV} {M : Mem} {ca qa : Option Addr} {cn ck qn qk : Nat} (h : RC M ca cn ck cs) (hq : RQ M qa qn qk log) (hqn : qn ≤ 2000) :
    Spec 42 #[SV ca cn ck, SV qa qn qk] M fun _ M' v => ∃ d : DP, v = .tuple #[DV d.ca d.cn d.ck d.qa d.qn d.qk, EV (if deskC cs 0 = 0 then (ranL cs log).length else 0 : Nat), .bool (decide (deskC cs 0 = 0))] ∧
      (deskC cs 0 = 0 → RC M' d.ca d.cn d.ck cs ∧ RQ M' d.qa d.qn d.qk (ranL cs log)) := by
  have hn := h.len
  have hqn' := hq.len
  refine ok42.spec 300 [SA ca cn ck, SA qa qn qk] rfl (by kernel_rfl) fun c K hK => ?_
  conv => cbv
  refine CallS.spec (askOpen_spec h) rfl fun B1 M1 v1 hB1 hlt1 hk1 hn1 ⟨ca1, cn1, ck1, ev1, h1⟩ => ⟨.tup [DA ca1 cn1 ck1 none 0 0, EA (deskC cs 0)], rfl, ev1.symm, ?_⟩
  conv => cbv
  refine ⟨fun e1 => ?_, fun e1 => ?_⟩
  · replace e1 := of_decide_eq_true e1
    try simp only [nc] at e1
    try simp only [minF_t] at e1
    try simp only [minF_f] at e1
    try dsimp only at e1
    refine hK.ground rfl hk1 ⟨⟨ca1, cn1, ck1, none, 0, 0⟩, ?_, fun k => absurd k e1⟩
    rw [if_neg e1, decide_eq_false e1]
    rfl
  · replace e1 := of_decide_eq_false e1
    try simp only [nc] at e1
    try simp only [minF_t] at e1
    try simp only [minF_f] at e1
    try dsimp only at e1
    have e1 : deskC cs 0 = 0 := by omega
    rw [if_pos e1] at h1
    rw [if_pos e1, decide_eq_true e1] at hK
    have hstep := ranL_len cs log
    refine OKS.loopH (fun (p : Nat × Mem × DP × List QV) => p.1 ≤ qn ∧ RC p.2.1 p.2.2.1.ca p.2.2.1.cn p.2.2.1.ck cs ∧ RQ p.2.1 p.2.2.1.qa p.2.2.1.qn p.2.2.1.qk p.2.2.2 ∧ (∀ b, M b ≠ none → p.2.1 b = M b) ∧ (log.drop p.1).foldl (ranStep cs) p.2.2.2 = ranL cs log ∧ p.2.2.2.length ≤ p.1)
      (fun p => [(9, EA (p.2.2.2.length : Nat)), (10, EA p.1)]) (fun p => [(7, .cells 56 [SA p.2.2.1.ca p.2.2.1.cn p.2.2.1.ck, SA p.2.2.1.qa p.2.2.1.qn p.2.2.1.qk]), (11, .none), (12, .none)]) (fun p => p.2.1) (fun p => qn - p.1)
      (0, M1, ⟨ca1, cn1, ck1, none, 0, 0⟩, []) ⟨by simp, h1, RdL.nil' .., hk1.keep, by simp [ranL], by simp⟩ ?_ ?_
    · refine ⟨by cbv <;> simp, by cbv <;> simp, by cbv, Mem.le_refl _⟩
    · intro ⟨i, Mi, ⟨dca, dcn, dck, dqa, dqn, dqk⟩, acc⟩ ⟨hi1, hdc, hdq, hkp, hfold, hacc⟩ ih
      simp only at hi1 hdc hdq hkp hfold hacc
      have hdqn := hdq.len
      have hqM := hq.up ElQ.up (le_of_keep hkp)
      refine ok42.go 100 (by kernel_rfl) ?_
      conv => cbv
      refine ⟨fun l1 => ?_, fun l1 => ?_⟩
      · replace l1 := of_decide_eq_true l1
        try simp only [nc] at l1
        try simp only [minF_t] at l1
        try simp only [minF_f] at l1
        try dsimp only at l1
        obtain ⟨b, o, ea, hp, hw⟩ := hqM.query (i := i) (by omega)
        rw [drop_cons' (show i < log.length by omega), List.foldl_cons] at hfold
        obtain ⟨q, hqe⟩ : ∃ q, log[i] = q := ⟨_, rfl⟩
        rw [hqe] at hp hw hfold
        refine .mk b o i ea rfl (by show i < qn; omega) ?_
        conv => cbv
        refine .mk (EA q.ag) rfl hp.1 ?_
        conv => cbv
        refine .mk b o i ea rfl (by show i < qn; omega) ?_
        conv => cbv
        refine .mk [EA q.a.n, EA q.a.d] rfl rfl ⟨hp.2.2.1, hp.2.2.2.1, trivial⟩ ?_
        conv => cbv
        refine .mk b o i ea rfl (by show i < qn; omega) ?_
        conv => cbv
        refine .mk [EA q.b.n, EA q.b.d] rfl rfl ⟨hp.2.2.2.2.1, hp.2.2.2.2.2.1, trivial⟩ ?_
        conv => cbv
        refine CallS.spec (askValue_spec hdc hdq q.ag hw.ag q.a q.b hw.a hw.b) rfl fun B2 M2 v2 hB2 hlt2 hk2 hn2 ⟨ca2, cn2, ck2, qa2, qn2, qk2, ev2, hc2, hl2⟩ => ⟨.tup [DA ca2 cn2 ck2 qa2 qn2 qk2, RA (askC valueC cs dqn q.ag q.a q.b).1, EA (askC valueC cs dqn q.ag q.a q.b).2], rfl, ev2.symm, ?_⟩
        conv => cbv
        refine .mk b o i ea rfl (by show i < qn; omega) ?_
        conv => cbv
        refine .mk (.sym .u8 fun _ => q.kind) rfl (Mem.cell_le hk2.le hp.2.1) ?_
        conv => cbv
        refine ⟨fun kk => ?_, fun kk => ?_⟩
        · replace kk := of_decide_eq_true kk
          try simp only [nc] at kk
          try simp only [minF_t] at kk
          try simp only [minF_f] at kk
          try dsimp only at kk
          have hp := CellsAt.le hk2.le hp
          refine .mk b o i ea rfl (by show i < qn; omega) ?_
          conv => cbv
          refine .mk (EA q.ag) rfl hp.1 ?_
          conv => cbv
          refine .mk b o i ea rfl (by show i < qn; omega) ?_
          conv => cbv
          refine .mk [EA q.a.n, EA q.a.d] rfl rfl ⟨hp.2.2.1, hp.2.2.2.1, trivial⟩ ?_
          conv => cbv
          refine .mk b o i ea rfl (by show i < qn; omega) ?_
          conv => cbv
          refine .mk [EA q.b.n, EA q.b.d] rfl rfl ⟨hp.2.2.2.2.1, hp.2.2.2.2.2.1, trivial⟩ ?_
          conv => cbv
          refine CallS.spec (askMark_spec (hdc.up ElC.up hk2.le) (hdq.up ElQ.up hk2.le) q.ag hw.ag q.a q.b hw.a hw.b) rfl fun B3 M3 v3 hB3 hlt3 hk3 hn3 ⟨ca3, cn3, ck3, qa3, qn3, qk3, ev3, hc3, hl3⟩ => ⟨.tup [DA ca3 cn3 ck3 qa3 qn3 qk3, RA (askC markC cs dqn q.ag q.a q.b).1, EA (askC markC cs dqn q.ag q.a q.b).2], rfl, ev3.symm, ?_⟩
          conv => cbv
          refine ⟨fun e9 => ?_, fun e9 => ?_⟩
          · replace e9 := of_decide_eq_true e9
            try simp only [nc] at e9
            try simp only [minF_t] at e9
            try simp only [minF_f] at e9
            try dsimp only at e9
            rw [if_pos e9] at hc3 hl3
            have hst : ranStep cs acc q = acc ++ [⟨q.ag, 2, q.a, q.b, (askC markC cs dqn q.ag q.a q.b).1⟩] := by rw [ranStep, if_pos kk, ← hdqn, if_pos e9]
            obtain ⟨acc', hacc'⟩ : ∃ acc', acc' = acc ++ [(⟨q.ag, 2, q.a, q.b, (askC markC cs dqn q.ag q.a q.b).1⟩ : QV)] := ⟨_, rfl⟩
            have hln : acc'.length = acc.length + 1 := by rw [hacc']; exact List.length_append
            rw [hst, ← hacc'] at hfold
            have hl3 : RQ M3 qa3 qn3 qk3 acc' := by rw [hacc']; exact hl3
            refine .i64 ((acc'.length : Nat) : Int) (by show (acc.length : Int) + 1 = _; omega) (by omega) (by omega) ?_
            conv => cbv
            refine .i64 ((i + 1 : Nat) : Int) (by show (i : Int) + 1 = _; omega) (by omega) (by omega) ?_
            conv => cbv
            refine ih (i + 1, M3, ⟨ca3, cn3, ck3, qa3, qn3, qk3⟩, acc') ⟨by simp only; omega, hc3, hl3, keep_trans hkp (keep_trans hk2.keep hk3.keep), hfold, by simp only; omega⟩ (by simp only; omega) _ ?_
            refine ⟨by cbv <;> simp, by cbv <;> simp, by cbv, Mem.le_refl _⟩
          · replace e9 := of_decide_eq_false e9
            try simp only [nc] at e9
            try simp only [minF_t] at e9
            try simp only [minF_f] at e9
            try dsimp only at e9
            have hst : ranStep cs acc q = acc := by rw [ranStep, if_pos kk, ← hdqn, if_neg e9]
            rw [hst] at hfold
            refine .i64 ((i + 1 : Nat) : Int) (by show (i : Int) + 1 = _; omega) (by omega) (by omega) ?_
            conv => cbv
            refine ih (i + 1, M3, ⟨dca, dcn, dck, dqa, dqn, dqk⟩, acc) ⟨by simp only; omega, hdc.up ElC.up (Mem.le_trans hk2.le hk3.le), hdq.up ElQ.up (Mem.le_trans hk2.le hk3.le), keep_trans hkp (keep_trans hk2.keep hk3.keep), hfold, by simp only; omega⟩ (by simp only; omega) _ ?_
            refine ⟨by cbv <;> simp, by cbv <;> simp, by cbv, Mem.le_refl _⟩
        · replace kk := of_decide_eq_false kk
          try simp only [nc] at kk
          try simp only [minF_t] at kk
          try simp only [minF_f] at kk
          try dsimp only at kk
          refine ⟨fun e9 => ?_, fun e9 => ?_⟩
          · replace e9 := of_decide_eq_true e9
            try simp only [nc] at e9
            try simp only [minF_t] at e9
            try simp only [minF_f] at e9
            try dsimp only at e9
            rw [if_pos e9] at hc2 hl2
            have hst : ranStep cs acc q = acc ++ [⟨q.ag, 1, q.a, q.b, (askC valueC cs dqn q.ag q.a q.b).1⟩] := by rw [ranStep, if_neg kk, ← hdqn, if_pos e9]
            obtain ⟨acc', hacc'⟩ : ∃ acc', acc' = acc ++ [(⟨q.ag, 1, q.a, q.b, (askC valueC cs dqn q.ag q.a q.b).1⟩ : QV)] := ⟨_, rfl⟩
            have hln : acc'.length = acc.length + 1 := by rw [hacc']; exact List.length_append
            rw [hst, ← hacc'] at hfold
            have hl2 : RQ M2 qa2 qn2 qk2 acc' := by rw [hacc']; exact hl2
            refine .i64 ((acc'.length : Nat) : Int) (by show (acc.length : Int) + 1 = _; omega) (by omega) (by omega) ?_
            conv => cbv
            refine .i64 ((i + 1 : Nat) : Int) (by show (i : Int) + 1 = _; omega) (by omega) (by omega) ?_
            conv => cbv
            refine ih (i + 1, M2, ⟨ca2, cn2, ck2, qa2, qn2, qk2⟩, acc') ⟨by simp only; omega, hc2, hl2, keep_trans hkp hk2.keep, hfold, by simp only; omega⟩ (by simp only; omega) _ ?_
            refine ⟨by cbv <;> simp, by cbv <;> simp, by cbv, Mem.le_refl _⟩
          · replace e9 := of_decide_eq_false e9
            try simp only [nc] at e9
            try simp only [minF_t] at e9
            try simp only [minF_f] at e9
            try dsimp only at e9
            have hst : ranStep cs acc q = acc := by rw [ranStep, if_neg kk, ← hdqn, if_neg e9]
            rw [hst] at hfold
            refine .i64 ((i + 1 : Nat) : Int) (by show (i : Int) + 1 = _; omega) (by omega) (by omega) ?_
            conv => cbv
            refine ih (i + 1, M2, ⟨dca, dcn, dck, dqa, dqn, dqk⟩, acc) ⟨by simp only; omega, hdc.up ElC.up hk2.le, hdq.up ElQ.up hk2.le, keep_trans hkp hk2.keep, hfold, by simp only; omega⟩ (by simp only; omega) _ ?_
            refine ⟨by cbv <;> simp, by cbv <;> simp, by cbv, Mem.le_refl _⟩
      · replace l1 := of_decide_eq_false l1
        try simp only [nc] at l1
        try simp only [minF_t] at l1
        try simp only [minF_f] at l1
        try dsimp only at l1
        have : i = log.length := by omega
        subst this
        have e2 : log.drop log.length = [] := List.drop_eq_nil_of_le (Nat.le_refl _)
        rw [e2, List.foldl_nil] at hfold
        subst hfold
        exact hK.ground rfl (Keeps.of_keep hkp) ⟨⟨dca, dcn, dck, dqa, dqn, dqk⟩, rfl, fun _ => ⟨hdc, hdq⟩⟩

end Go.SX
