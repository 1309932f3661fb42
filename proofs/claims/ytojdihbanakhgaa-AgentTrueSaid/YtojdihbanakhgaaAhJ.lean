/- Layer 36: the examples. -/
import Derived.Test.YtojdihbanakhgaaAhI
import Derived.Test.YtojdihbanakhgaaAgQa
import Derived.Test.YtojdihbanakhgaaSxFn3
namespace Go.SX
open Go.Proofs.Try Go.Proofs

def flatC (d : Int) : CakeV := ⟨2, [0, 2], [d]⟩
def givenA : ActV := ⟨flatC 1, flatC 3, 1, 0⟩

set_option maxRecDepth 100000 in
theorem flat_spec (d : Int) (hd : I64 d) (M : Mem) : Spec 63 #[EV d] M fun _ M' v => ∃ p : CP, v = p.val ∧ Ck M' p (flatC d) := by
  refine ok63.spec 200 [EA d] rfl (by kernel_rfl) fun c K hK => ?_
  conv => cbv
  refine .mk trivial fun b1 M1 n1 B1 e1 => ?_
  conv => cbv
  refine .mk trivial fun b2 M2 n2 B2 e2 => ?_
  conv => cbv
  have f1 : M1 = M.set b1 (.row 3 2 ([0, 2].map EV)) := e1
  have f2 : M2 = M1.set b2 (.row 3 1 ([d].map EV)) := e2
  have k1 : ∀ b, M b ≠ none → M1 b = M b := by rw [f1]; exact keep_set n1
  have k2 : ∀ b, M1 b ≠ none → M2 b = M1 b := by rw [f2]; exact keep_set n2
  have r1 : RI M1 (some ⟨b1, 0, none⟩) 2 2 [0, 2] := RI.new (l := [0, 2]) (by rw [f1]; exact set_self ..) (by simp [I64]) (by simp)
  have r2 : RI M2 (some ⟨b2, 0, none⟩) 1 1 [d] := RI.new (l := [d]) (by rw [f2]; exact set_self ..) (by simpa using hd) (by simp)
  exact hK.ground rfl (Keeps.of_keep (keep_trans k1 k2)) ⟨⟨2, some ⟨b1, 0, none⟩, 2, 2, some ⟨b2, 0, none⟩, 1, 1⟩, rfl, rfl, by simp [flatC, I64], r1.up (ElI.up _ _) (le_of_keep k2), r2⟩

set_option maxRecDepth 100000 in
theorem given_spec (M : Mem) : Spec 61 #[] M fun _ M' v => ∃ p : AP, v = .agg p.cells.toArray ∧ p.after = 1 ∧ p.asked = 0 ∧ Ak M' p givenA := by
  refine ok61.spec 200 [] rfl (by kernel_rfl) fun c K hK => ?_
  conv => cbv
  refine CallS.spec (flat_spec 1 (by simp [I64]) M) rfl fun B1 M1 v1 hB1 hlt1 hk1 hn1 ⟨p1, ev1, h1⟩ => ⟨p1.av, rfl, ev1.symm, ?_⟩
  conv => cbv
  refine CallS.spec (flat_spec 3 (by simp [I64]) M1) rfl fun B2 M2 v2 hB2 hlt2 hk2 hn2 ⟨p2, ev2, h2⟩ => ⟨p2.av, rfl, ev2.symm, ?_⟩
  conv => cbv
  exact hK.ground rfl (hk1.trans hk2) ⟨⟨p1, p2, 1, 0⟩, rfl, rfl, rfl, h1.up hk2.le, h2, rfl, rfl, by simp [givenA, I64], by simp [givenA, I64]⟩

theorem of01_spec (n : Int) (_h : I64 n) (M : Mem) : Pure1 60 #[EV n] M (RV (R.of n)) := by
  refine ok60.pure 200 [EA n] rfl (by kernel_rfl) fun c K hK => ?_
  conv => cbv
  refine hK.pure rfl (Mem.le_refl _) ?_
  rfl

def gm0 : MtV := ⟨[givenA], []⟩
def gm1 : MtV := ⟨[⟨flatC 1, flatC 3, 1, 1⟩], [⟨0, 1, R.of 0, R.of 1, R.of 1⟩]⟩
def gm2 : MtV := ⟨[⟨flatC 1, flatC 3, 1, 2⟩], [⟨0, 1, R.of 0, R.of 1, R.of 1⟩, ⟨0, 1, R.of 0, R.of 1, R.of 3⟩]⟩

theorem eg_open : meetC [givenA] [] = 0 := by decide +kernel
theorem eg_openR : openR [givenA] = gm0 := by decide +kernel
theorem eg_ask1 : askR gm0 ⟨0, 1, R.of 0, R.of 1, R.zero⟩ = (gm1, R.of 1, 0) := by decide +kernel
theorem eg_ask2 : askR gm1 ⟨0, 1, R.of 0, R.of 1, R.zero⟩ = (gm2, R.of 3, 0) := by decide +kernel
theorem eg_hon : honR gm2 = ([false], 0) := by decide +kernel

set_option maxHeartbeats 1000000 in
set_option maxRecDepth 100000 in
theorem alive36_spec (M : Mem) : Spec 64 #[] M fun _ _ v => v = .bool true := by
  refine ok64.spec 400 [] rfl (by kernel_rfl) fun c K hK => ?_
  conv => cbv
  refine CallS.spec (given_spec M) rfl fun B1 M1 v1 hB1 hlt1 hk1 hn1 ⟨p1, ev1, _, _, h1⟩ => ⟨.agg p1.avs, rfl, ev1.symm, ?_⟩
  conv => cbv
  refine .mk trivial fun b2 M2 n2 B2 e2 => ?_
  conv => cbv
  have f2 : M2 = M1.set b2 (.row 97 8 p1.cells) := e2
  have k2 : ∀ b, M1 b ≠ none → M2 b = M1 b := by rw [f2]; exact keep_set n2
  have r2 : RActs M2 (some ⟨b2, 0, none⟩) 1 1 [givenA] := RdL.one (fun _ _ _ => trivial) (CellsAt.new f2) rfl ⟨_, rfl, h1.up (le_of_keep k2)⟩ (by omega)
  refine CallS.spec (open36_spec r2) rfl fun B3 M3 v3 hB3 hlt3 hk3 hn3 ⟨u3, ev3, aa3, ak3, qa3, qk3, eu3, ra3, rq3⟩ => ⟨.tup [MA aa3 1 ak3 qa3 0 qk3, .int .i64 0], rfl, (by rw [ev3, eu3, eg_open, eg_openR]; rfl), ?_⟩
  rw [eg_openR] at ra3 rq3
  have K3 := keep_trans hk1.keep (keep_trans k2 hk3.keep)
  conv => cbv
  refine CallS.pure (of01_spec 0 (by simp [I64]) M3) rfl (.agg [.int .i64 0, .int .i64 1]) rfl rfl ?_
  conv => cbv
  refine CallS.pure (of01_spec 1 (by simp [I64]) M3) rfl (.agg [.int .i64 1, .int .i64 1]) rfl rfl ?_
  conv => cbv
  refine CallS.spec (ask36_spec ra3 rq3 0 1 (by simp [I64]) (by omega) (R.of 0) (R.of 1) (of_wf' 0 (by omega)) (of_wf' 1 (by omega))) rfl fun B4 M4 v4 hB4 hlt4 hk4 hn4 ⟨u4, ev4, hp4⟩ => ?_
  have e4 : askR ⟨gm0.acts, gm0.log⟩ ⟨0, 1, R.of 0, R.of 1, R.zero⟩ = (gm1, R.of 1, 0) := eg_ask1
  rw [e4] at ev4 hp4
  obtain ⟨aa4, ak4, qa4, qk4, eu4, ra4, rq4⟩ := hp4
  refine ⟨.tup [MA aa4 1 ak4 qa4 1 qk4, .agg [.int .i64 1, .int .i64 1], .int .i64 0], rfl, (by rw [ev4, eu4]; rfl), ?_⟩
  have K4 := keep_trans K3 hk4.keep
  conv => cbv
  refine CallS.spec (ask36_spec ra4 rq4 0 1 (by simp [I64]) (by omega) (R.of 0) (R.of 1) (of_wf' 0 (by omega)) (of_wf' 1 (by omega))) rfl fun B5 M5 v5 hB5 hlt5 hk5 hn5 ⟨u5, ev5, hp5⟩ => ?_
  have e5 : askR ⟨gm1.acts, gm1.log⟩ ⟨0, 1, R.of 0, R.of 1, R.zero⟩ = (gm2, R.of 3, 0) := eg_ask2
  rw [e5] at ev5 hp5
  obtain ⟨aa5, ak5, qa5, qk5, eu5, ra5, rq5⟩ := hp5
  refine ⟨.tup [MA aa5 1 ak5 qa5 2 qk5, .agg [.int .i64 3, .int .i64 1], .int .i64 0], rfl, (by rw [ev5, eu5]; rfl), ?_⟩
  have K5 := keep_trans K4 hk5.keep
  conv => cbv
  refine CallS.spec (honest_spec ra5 rq5) rfl fun B6 M6 v6 hB6 hlt6 hk6 hn6 hp6 => ?_
  have e6 : honR ⟨gm2.acts, gm2.log⟩ = ([false], 0) := eg_hon
  unfold HonPost at hp6
  rw [e6] at hp6
  obtain ⟨a6, k6, ev6, rb6⟩ := hp6
  refine ⟨.tup [SA a6 1 k6, .int .i64 0], rfl, (by rw [ev6]; rfl), ?_⟩
  have K6 := keep_trans K5 hk6.keep
  have ra6 := ra5.up ElA.up hk6.le
  conv => cbv
  refine CallS.pure (of01_spec 3 (by simp [I64]) M6) rfl (.agg [.int .i64 3, .int .i64 1]) rfl rfl ?_
  conv => cbv
  refine ⟨fun _ => ?_, fun k => absurd rfl (of_decide_eq_false k)⟩
  refine .mk ?_
  conv => cbv
  refine ⟨fun _ => ?_, fun k => absurd rfl (of_decide_eq_false k)⟩
  refine .mk ?_
  conv => cbv
  obtain ⟨b7, o7, p7, ea7, hp7, hak7⟩ := ra6.actor (i := 0) (by decide)
  have ha7 : p7.asked = 2 := hak7.asked
  refine .mk b7 o7 0 ea7 rfl (by show 0 < 1; omega) ?_
  conv => cbv
  refine .mk (.int .i64 2) rfl (by rw [show o7 + 0 * 8 + 7 = (o7 + 0 * 8) + 7 from rfl]; exact (AP.at_asked hp7).trans (by rw [ha7]; rfl)) ?_
  conv => cbv
  refine .mk trivial fun b8 M8 n8 B8 e8 => ?_
  conv => cbv
  have f8 : M8 = M6.set b8 (.row 4 1 ([false].map Value.bool)) := e8
  have k8 : ∀ b, M6 b ≠ none → M8 b = M6 b := by rw [f8]; exact keep_set n8
  refine CallS.pure (sameBools_spec (rb6.up ElB.up (le_of_keep k8)) (RB.new (l := [false]) (k := 1) (by rw [f8]; exact set_self ..) (by simp)) (by decide)) rfl .tt rfl rfl ?_
  conv => cbv
  exact hK.ground rfl (Keeps.of_keep (keep_trans K6 k8)) rfl

end Go.SX
