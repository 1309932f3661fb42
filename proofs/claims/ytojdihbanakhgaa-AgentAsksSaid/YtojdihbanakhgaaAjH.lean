/- Layer 36: what is asked is what the reference says, and the meeting stays as it is. -/
import Derived.Test.YtojdihbanakhgaaAjG
import Derived.Test.YtojdihbanakhgaaAjF
import Derived.Test.YtojdihbanakhgaaSxFn0
namespace Go.SX
open Go.Proofs.Try Go.Proofs

theorem askR_small (m : MtV) (q : QV) : (askR m q).1.acts.length ≤ 6 ∧ (askR m q).1.log.length ≤ 2001 ∧ ∀ x ∈ (askR m q).1.acts, x.own.cuts.length ≤ 1000 ∧ x.own.dens.length ≤ 1000 ∧ x.told.cuts.length ≤ 1000 ∧ x.told.dens.length ≤ 1000 := by
  unfold askR
  split
  · simp [mt0]
  · rename_i h1
    split
    · simp [mt0]
    · rename_i h2
      have h3 := stepM_ok (m := m) (q := q) (by omega) (by omega)
      obtain ⟨f1, f2, f3, f4, f5⟩ := meetC_ok h3
      exact ⟨f2, Nat.le_trans f3 (by omega), (small_of h3).z⟩

theorem openR_small (l : List ActV) : (openR l).acts.length ≤ 6 ∧ (openR l).log.length ≤ 2001 ∧ ∀ x ∈ (openR l).acts, x.own.cuts.length ≤ 1000 ∧ x.own.dens.length ≤ 1000 ∧ x.told.cuts.length ≤ 1000 ∧ x.told.dens.length ≤ 1000 := by
  unfold openR
  split
  · rename_i h1
    obtain ⟨f1, f2, f3, f4, f5⟩ := meetC_ok h1
    exact ⟨f2, by simp, (small_of h1).z⟩
  · simp [mt0]

theorem greatA_no {l : List ActV} (h : greatA l = false) : l.length ≤ 10 ∧ ∀ x ∈ l, x.own.cuts.length ≤ 1000 ∧ x.own.dens.length ≤ 1000 ∧ x.told.cuts.length ≤ 1000 ∧ x.told.dens.length ≤ 1000 := by
  simp only [greatA, Bool.or_eq_false_iff, decide_eq_false_iff_not] at h
  obtain ⟨⟨h1, h2⟩, h3⟩ := h
  refine ⟨by omega, fun x hx => ?_⟩
  have key : ∀ told, greatL (cakesL l told) = false → (if told then x.told else x.own).cuts.length ≤ 60 ∧ (if told then x.told else x.own).dens.length ≤ 60 := fun told hk => by
    simp only [greatL, Bool.or_eq_false_iff] at hk
    have := List.any_eq_false.1 hk.1 (if told then x.told else x.own) (List.mem_map.2 ⟨x, hx, rfl⟩)
    simp only [greatC, Bool.or_eq_true, decide_eq_true_eq] at this
    omega
  have k1 := key false h2
  have k2 := key true h3
  simp at k1 k2
  omega

set_option maxHeartbeats 1000000 in
set_option maxRecDepth 100000 in
theorem agentAsks_spec {acts : List ActV} {log : List QV} {M : Mem} {aa qa : Option Addr} {an ak qn qk : Nat} (h : RActs M aa an ak acts) (hq : RQ M qa qn qk log) (ag kind : Int) (hag : I64 ag) (hkd : 0 ≤ kind ∧ kind < 256) (a b : R) (ha : a.Wf) (hb : b.Wf) :
    Spec 8 #[MV aa an ak qa qn qk, EV ag, .int .u8 kind, RV a, RV b] M fun _ _ v => v = .bool true := by
  have hn := h.len
  have hqn := hq.len
  refine ok8.spec 400 [MA aa an ak qa qn qk, EA ag, .sym .u8 fun _ => kind, RA a, RA b] rfl (by kernel_rfl) fun c K hK => ?_
  conv => cbv
  refine CallS.spec (greatMeet_spec h (qa := qa) (qn := qn) (qk := qk)) rfl fun B1 M1 v1 hB1 hlt1 hk1 hn1 ev1 => ⟨.sb fun _ => greatM acts qn, rfl, ev1.symm, ?_⟩
  have K1 := hk1.keep
  conv => cbv
  refine ⟨fun g1 => hK.ground rfl hk1 rfl, fun g1 => ?_⟩
  replace g1 : greatM acts qn = false := g1
  simp only [greatM, Bool.or_eq_false_iff, decide_eq_false_iff_not] at g1
  obtain ⟨⟨g1, g2⟩, g3⟩ := g1
  obtain ⟨z1, z2⟩ := greatA_no g1
  refine CallS.spec (twin36_spec (h.up ElA.up (le_of_keep K1)) (hq.up ElQ.up (le_of_keep K1)) (by omega) z2 (by omega)) rfl fun B2 M2 v2 hB2 hlt2 hk2 hn2 ⟨a2, k2, q2, j2, ev2, ra2, rq2⟩ => ⟨MA a2 acts.length k2 q2 log.length j2, rfl, ev2.symm, ?_⟩
  have K2 := keep_trans K1 hk2.keep
  conv => cbv
  obtain ⟨y1, y2, y3⟩ := openR_small acts
  obtain ⟨mo, hmo⟩ : ∃ mo, openR acts = mo := ⟨_, rfl⟩
  rw [hmo] at y1 y2 y3
  have s3 := open36F_spec (h.up ElA.up (le_of_keep K2))
  rw [hmo] at s3
  refine CallS.spec s3 rfl fun B3 M3 v3 hB3 hlt3 hk3 hn3 ⟨u3, ev3, a3, k3, q3, j3, eu3, ra3, rq3, fr3⟩ => ⟨.tup [MA a3 mo.acts.length k3 q3 mo.log.length j3, EA (meetC acts [])], rfl, (by rw [ev3, eu3]; rfl), ?_⟩
  have K3 := keep_trans K2 hk3.keep
  conv => cbv
  have s4 := refOpen_spec (h.up ElA.up (le_of_keep K3))
  rw [hmo] at s4
  refine CallS.spec s4 rfl fun B4 M4 v4 hB4 hlt4 hk4 hn4 ⟨u4, ev4, a4, k4, q4, j4, eu4, ra4, rq4⟩ => ⟨.tup [MA a4 mo.acts.length k4 q4 mo.log.length j4, EA (meetC acts [])], rfl, (by rw [ev4, eu4]; rfl), ?_⟩
  have K4 := keep_trans K3 hk4.keep
  conv => cbv
  obtain ⟨x1, x2, x3⟩ := askR_small ⟨acts, log⟩ ⟨ag, kind, a, b, R.zero⟩
  obtain ⟨r, hr⟩ : ∃ r, askR ⟨acts, log⟩ ⟨ag, kind, a, b, R.zero⟩ = r := ⟨_, rfl⟩
  rw [hr] at x1 x2 x3
  have s5 := ask36F_spec (h.up ElA.up (le_of_keep K4)) (hq.up ElQ.up (le_of_keep K4)) ag kind hag hkd a b ha hb
  rw [hr] at s5
  refine CallS.spec s5 rfl fun B5 M5 v5 hB5 hlt5 hk5 hn5 ⟨u5, ev5, a5, k5, q5, j5, eu5, ra5, rq5, fr5⟩ => ⟨.tup [MA a5 r.1.acts.length k5 q5 r.1.log.length j5, RA r.2.1, EA r.2.2], rfl, (by rw [ev5, eu5]; rfl), ?_⟩
  have K5 := keep_trans K4 hk5.keep
  conv => cbv
  have s6 := refAsk_spec (h.up ElA.up (le_of_keep K5)) (hq.up ElQ.up (le_of_keep K5)) ag kind hag hkd a b ha hb
  rw [hr] at s6
  refine CallS.spec s6 rfl fun B6 M6 v6 hB6 hlt6 hk6 hn6 ⟨u6, ev6, a6, k6, q6, j6, eu6, ra6, rq6⟩ => ⟨.tup [MA a6 r.1.acts.length k6 q6 r.1.log.length j6, RA r.2.1, EA r.2.2], rfl, (by rw [ev6, eu6]; rfl), ?_⟩
  have K6 := keep_trans K5 hk6.keep
  conv => cbv
  obtain ⟨hr', hhr⟩ : ∃ hr', honR ⟨acts, log⟩ = hr' := ⟨_, rfl⟩
  have hl6 : hr'.1.length ≤ 1000000 := by
    rw [← hhr, honR]
    split
    · simp
    · simp [honL]; omega
  have s7 := honest_spec (h.up ElA.up (le_of_keep K6)) (hq.up ElQ.up (le_of_keep K6))
  unfold HonPost at s7
  rw [hhr] at s7
  refine CallS.spec s7 rfl fun B7 M7 v7 hB7 hlt7 hk7 hn7 ⟨a7, k7, ev7, rb7⟩ => ⟨.tup [SA a7 hr'.1.length k7, EA hr'.2], rfl, ev7.symm, ?_⟩
  have K7 := keep_trans K6 hk7.keep
  conv => cbv
  have s8 := refHonest_spec (h.up ElA.up (le_of_keep K7)) (hq.up ElQ.up (le_of_keep K7))
  unfold HonPost at s8
  rw [hhr] at s8
  refine CallS.spec s8 rfl fun B8 M8 v8 hB8 hlt8 hk8 hn8 ⟨a8, k8, ev8, rb8⟩ => ⟨.tup [SA a8 hr'.1.length k8, EA hr'.2], rfl, ev8.symm, ?_⟩
  have K8 := keep_trans K7 hk8.keep
  conv => cbv
  refine CallS.spec (meetCheck_spec (h.up ElA.up (le_of_keep K8)) (hq.up ElQ.up (le_of_keep K8))) rfl fun B9 M9 v9 hB9 hlt9 hk9 hn9 ev9 => ⟨EA (meetC acts log), rfl, ev9.symm, ?_⟩
  have K9 := keep_trans K8 hk9.keep
  conv => cbv
  refine CallS.spec (refMeet_spec (h.up ElA.up (le_of_keep K9)) (hq.up ElQ.up (le_of_keep K9))) rfl fun Ba Ma va hBa hlta hka hna eva => ⟨EA (meetC acts log), rfl, eva.symm, ?_⟩
  have Ka := keep_trans K9 hka.keep
  conv => cbv
  refine ⟨fun k => absurd rfl (of_decide_eq_true k), fun _ => .mk ?_⟩
  conv => cbv
  have L3 := Mem.le_trans hk4.le (Mem.le_trans hk5.le (Mem.le_trans hk6.le (Mem.le_trans hk7.le (Mem.le_trans hk8.le (Mem.le_trans hk9.le hka.le)))))
  have L4 := Mem.le_trans hk5.le (Mem.le_trans hk6.le (Mem.le_trans hk7.le (Mem.le_trans hk8.le (Mem.le_trans hk9.le hka.le))))
  have L5 := Mem.le_trans hk6.le (Mem.le_trans hk7.le (Mem.le_trans hk8.le (Mem.le_trans hk9.le hka.le)))
  have L6 := Mem.le_trans hk7.le (Mem.le_trans hk8.le (Mem.le_trans hk9.le hka.le))
  have L7 := Mem.le_trans hk8.le (Mem.le_trans hk9.le hka.le)
  have L8 := Mem.le_trans hk9.le hka.le
  refine CallS.pure (sameMeet_spec (ra3.up ElA.up L3) (rq3.up ElQ.up L3) (ra4.up ElA.up L4) (rq4.up ElQ.up L4) (by omega) (by omega) y3) rfl .tt rfl (by simp; rfl) ?_
  conv => cbv
  refine ⟨fun k => absurd rfl (of_decide_eq_true k), fun _ => .mk ?_⟩
  conv => cbv
  refine CallS.pure (sameMeet_spec (ra5.up ElA.up L5) (rq5.up ElQ.up L5) (ra6.up ElA.up L6) (rq6.up ElQ.up L6) (by omega) (by omega) x3) rfl .tt rfl (by simp; rfl) ?_
  conv => cbv
  refine ⟨fun k => by simp at k, fun _ => .mk ?_⟩
  conv => cbv
  refine ⟨fun k => absurd rfl (of_decide_eq_true k), fun _ => .mk ?_⟩
  conv => cbv
  refine CallS.pure (sameBools_spec (rb7.up ElB.up L7) (rb8.up ElB.up L8) hl6) rfl .tt rfl (by simp [sameB]; rfl) ?_
  conv => cbv
  refine ⟨fun k => absurd rfl (of_decide_eq_true k), fun _ => ?_⟩
  have hMa : ∀ b, LB B3 M3 b = true → Ma b ≠ none ∧ (c.B0 ≤ b ∨ c.lent b = true) := fun b hb => by
    simp only [LB, Bool.and_eq_true, decide_eq_true_eq] at hb
    refine ⟨fun e => ?_, .inl (Nat.le_trans hB3 hb.1)⟩
    cases k : M3 b with
    | none => rw [k] at hb; cases hb.2
    | some f =>
      obtain ⟨f', k1, _⟩ := L3 b f k
      rw [e] at k1; cases k1
  have sp1 := (spoil_spec fr3 (by omega) (by omega) (fresh_dn ra3 fun x hx => (y3 x hx).2.1)).frameV L3
  refine CallS.specU sp1 rfl hMa (.inl rfl) fun Bb Mb vb hBb hltb hkb hnb evb => ⟨.tup [], rfl, evb.symm, ?_⟩
  conv => cbv
  have lt5 : ∀ b, M3 b ≠ none → b < B5 := fun b hb => hlt5 b (by rw [hk4.keep b hb]; exact hb)
  obtain ⟨N5, hN5⟩ : ∃ N5 : Mem, N5 = fun b => if LB B3 M3 b then none else M5 b := ⟨_, rfl⟩
  have cut5 : ∀ b, B5 ≤ b → N5 b = M5 b := fun b hb => by
    have : LB B3 M3 b = false := by
      cases k : M3 b with
      | none => simp [LB, k]
      | some f => have := lt5 b (by rw [k]; simp); omega
    rw [hN5]
    simp only [this]
    rfl
  have N5le : N5.le Mb := fun b f hb => by
    rw [hN5] at hb
    simp only at hb
    cases hl : LB B3 M3 b with
    | true => rw [hl] at hb; cases hb
    | false =>
      rw [hl] at hb
      have hb : M5 b = some f := hb
      obtain ⟨f', k1, k2⟩ := L5 b f hb
      exact ⟨f', by rw [hkb b (by rw [k1]; simp) hl]; exact k1, k2⟩
  have hMb : ∀ b, LB B5 N5 b = true → Mb b ≠ none ∧ (c.B0 ≤ b ∨ c.lent b = true) := fun b hb => by
    simp only [LB, Bool.and_eq_true, decide_eq_true_eq] at hb
    refine ⟨fun e => ?_, .inl (Nat.le_trans hB5 hb.1)⟩
    cases k : N5 b with
    | none => rw [k] at hb; cases hb.2
    | some f =>
      obtain ⟨f', k1, _⟩ := N5le b f k
      rw [e] at k1; cases k1
  have sp2 := (spoil_spec (fr5.cut cut5) (by omega) (by omega) (fun g ps e1 e2 => fresh_dn ra5 (fun x hx => (x3 x hx).2.1) g ps e1 (by
    rw [hN5] at e2
    simp only at e2
    cases hl : LB B3 M3 g with
    | true => rw [hl] at e2; cases e2
    | false => rw [hl] at e2; exact e2))).frameV N5le
  refine CallS.specU sp2 rfl hMb (.inl rfl) fun Bd Md vd hBd hltd hkd2 hnd evd => ⟨.tup [], rfl, evd.symm, ?_⟩
  conv => cbv
  have keep2 : ∀ b, M2 b ≠ none → Md b = M2 b := fun b hb => by
    have lb3 := hlt3 b hb
    have e3 : M3 b = M2 b := hk3.keep b hb
    have e5 : M5 b = M2 b := by rw [hk5.keep b (by rw [hk4.keep b (by rw [e3]; exact hb), e3]; exact hb), hk4.keep b (by rw [e3]; exact hb), e3]
    have b5 : b < B5 := lt5 b (by rw [e3]; exact hb)
    have ea : Ma b = M2 b := by
      have x6 : M6 b = M2 b := by rw [hk6.keep b (by rw [e5]; exact hb), e5]
      have x7 : M7 b = M2 b := by rw [hk7.keep b (by rw [x6]; exact hb), x6]
      have x8 : M8 b = M2 b := by rw [hk8.keep b (by rw [x7]; exact hb), x7]
      have x9 : M9 b = M2 b := by rw [hk9.keep b (by rw [x8]; exact hb), x8]
      rw [hka.keep b (by rw [x9]; exact hb), x9]
    have l3 : LB B3 M3 b = false := by
      simp only [LB, Bool.and_eq_false_iff, decide_eq_false_iff_not]
      left; omega
    have l5 : LB B5 N5 b = false := by
      simp only [LB, Bool.and_eq_false_iff, decide_eq_false_iff_not]
      left; omega
    have eb : Mb b = M2 b := by rw [hkb b (by rw [ea]; exact hb) l3, ea]
    rw [hkd2 b (by rw [eb]; exact hb) l5, eb]
  have Kd := keep_trans K2 keep2
  refine CallS.pure (sameMeet_spec (h.up ElA.up (le_of_keep Kd)) (hq.up ElQ.up (le_of_keep Kd)) (ra2.up ElA.up (le_of_keep keep2)) (rq2.up ElQ.up (le_of_keep keep2)) (by omega) (by omega) z2) rfl .tt rfl (by simp; rfl) ?_
  conv => cbv
  exact hK.ground rfl (Keeps.of_keep Kd) rfl

end Go.SX
