/- Layer 36: runs, plainly; Run, Open, Ask. -/
import Derived.Test.YtojdihbanakhgaaAhG
import Derived.Test.YtojdihbanakhgaaSxFn1
import Derived.Test.YtojdihbanakhgaaSxFn2
namespace Go.SX
open Go.Proofs.Try Go.Proofs

/-! ### Plainly -/

theorem stepE_ok {m : MtV} {q : QV} (h : (stepE m q).2 = 0) : hasC m.acts.length q.ag = true ∧ (ansM m q).2 = 0 ∧ m.log.length < 2000 ∧ (stepE m q).1 = (ansM m q).1 := by
  unfold stepE at h ⊢
  split at h
  · cases h
  · rename_i h1
    split at h
    · rename_i h2; exact absurd h h2
    · rename_i h2
      split at h
      · cases h
      · rename_i h3
        rw [if_neg h1, if_neg h2, if_neg h3]
        exact ⟨by simpa using h1, by omega, by omega, rfl⟩

theorem firstA_set : ∀ (l : List ActV) (i : Nat) (x : ActV) (_h : i < l.length), x.own = l[i].own → x.told = l[i].told → firstA (l.set i x) = firstA l
  | [], i, x, h, _, _ => by simp at h
  | y :: l, 0, x, h, e1, e2 => by
    simp at e1 e2
    simp [firstA, e1, e2]
  | y :: l, i + 1, x, h, e1, e2 => by
    have ih := firstA_set l i x (by simpa using h) (by simpa using e1) (by simpa using e2)
    simp [firstA, ih]

theorem stepM_eq {m : MtV} {q : QV} (h : (stepE m q).2 = 0) : ∃ i : Nat, ∃ hi : i < m.acts.length, q.ag = (i : Int) ∧ stepM m q = ⟨m.acts.set i m.acts[i].more, m.log ++ [⟨q.ag, q.kind, q.a, q.b, (ansM m q).1⟩]⟩ := by
  obtain ⟨h1, h2, h3, h4⟩ := stepE_ok h
  obtain ⟨i, hqi, hi⟩ := hasC_nat h1
  refine ⟨i, hi, hqi, ?_⟩
  rw [stepM, if_pos h, h4, getA_eq hqi hi, hqi, Int.toNat_natCast]

theorem stepM_ok {m : MtV} {q : QV} (hm : meetC m.acts m.log = 0) (h : (stepE m q).2 = 0) : meetC (stepM m q).acts (stepM m q).log = 0 := by
  obtain ⟨h1, h2, h3, h4⟩ := stepE_ok h
  obtain ⟨i, hi, hqi, e⟩ := stepM_eq h
  rw [e]
  obtain ⟨d1, d2, d3, d4, d5⟩ := meetC_ok hm
  rw [meetC_ne (by omega) (by omega)] at hm
  simp only
  rw [meetC_ne (by simp; omega) (by simp; omega), firstA_set m.acts i m.acts[i].more hi rfl rfl]
  split at hm
  · rename_i h5; exact absurd hm h5
  · rename_i h5
    rw [if_neg h5]
    split at hm
    · rename_i h6
      rw [if_pos]
      refine actsOk_iff.2 fun j hj => ?_
      have hj' : j < m.acts.length := by simpa using hj
      have k := actsOk_iff.1 h6 j hj'
      have e0 : (m.acts.set i m.acts[i].more)[0].own = m.acts[0].own := by
        rw [List.getElem_set]
        split
        · rename_i e; subst e; rfl
        · rfl
      rw [e0]
      simp only [actOk, Bool.and_eq_true, decide_eq_true_eq, Nat.zero_add] at k ⊢
      obtain ⟨⟨⟨⟨k1, k2⟩, k3⟩, k4⟩, k5⟩ := k
      rw [cntL_snoc, List.getElem_set]
      by_cases e1 : i = j
      · subst e1
        simp only [if_true, ActV.more, hqi]
        omega
      · have : ¬ q.ag = (j : Int) := by omega
        simp only [if_neg e1, if_neg this, Nat.add_zero]
        omega
    · omega

def runM (m : MtV) : List QV → Nat → MtV × Nat × Int
  | [], i => (m, i, 0)
  | q :: l, i => if (stepE m q).2 ≠ 0 then (m, i, (stepE m q).2) else runM (stepM m q) l (i + 1)
def mt0 : MtV := ⟨[], []⟩
def runR (m : MtV) (l : List QV) : MtV × Nat × Int :=
  if meetC m.acts m.log ≠ 0 then (mt0, 0, meetC m.acts m.log) else if 2000 < l.length then (mt0, 0, 4) else runM m l 0

theorem runM_cons {l : List QV} {i : Nat} (h : i < l.length) (m : MtV) (j : Nat) : runM m (l.drop i) j = if (stepE m l[i]).2 ≠ 0 then (m, j, (stepE m l[i]).2) else runM (stepM m l[i]) (l.drop (i + 1)) (j + 1) := by
  rw [drop_cons' h]; rfl

theorem small_of {acts : List ActV} {log : List QV} (h : meetC acts log = 0) : Small acts := by
  obtain ⟨d1, d2, d3, d4, d5⟩ := meetC_ok h
  refine ⟨d1, by omega, fun x hx => ?_⟩
  obtain ⟨k1, k2⟩ := d4 x hx
  have g1 := good k1
  have g2 := good k2
  have := g1.n2; have := g1.n3; have := g2.n2; have := g2.n3
  omega

theorem asked_of {acts : List ActV} {log : List QV} (h : meetC acts log = 0) : ∀ x ∈ acts, -1000000 ≤ x.asked ∧ x.asked ≤ 1000000 := fun x hx => by
  obtain ⟨d1, d2, d3, d4, d5⟩ := meetC_ok h
  obtain ⟨i, hi, rfl⟩ := List.getElem_of_mem hx
  have := (d5 i hi).2.2.2.2
  have := cntL_le log (i : Nat)
  omega

/-! ### The walks -/

theorem LM_in {M : Mem} {mb g ak : Nat} {ho : Option Nat} {qk : Nat} {acts : List ActV} {log : List QV} {B' : Nat} (h : MtgAt B' M mb g ak ho qk acts log) {B : Nat} (h1 : B ≤ mb) (h2 : B ≤ g) (h3 : ∀ h, ho = some h → B ≤ h) : ∀ b, LM mb g ho b = true → M b ≠ none ∧ B ≤ b := fun b hb => by
  simp only [LM, Bool.or_eq_true, beq_iff_eq] at hb
  rcases hb with (rfl | rfl) | e
  · exact ⟨by rw [h.obj]; simp, h1⟩
  · obtain ⟨ps, Mc, r1, _⟩ := h.row
    exact ⟨by rw [r1]; simp, h2⟩
  · refine ⟨?_, h3 b e⟩
    rcases h.logAt with ⟨e1, _⟩ | ⟨hb', e1, e2, _⟩
    · rw [e1] at e; cases e
    · rw [e1] at e; cases e
      rw [e2]; simp

/-- What is returned: a meeting that reads so. -/
def MtPost (m : MtV) (M' : Mem) (v : Value) : Prop := ∃ aa ak qa qk, v = MV aa m.acts.length ak qa m.log.length qk ∧ RActs M' aa m.acts.length ak m.acts ∧ RQ M' qa m.log.length qk m.log

/-- The rows lie at or beyond B. -/
structure FreshMt (B : Nat) (M : Mem) (aa : Option Addr) (an ak : Nat) (qa : Option Addr) (qn qk : Nat) : Prop where
  acts : an = 0 ∨ ∃ g ps, aa = some ⟨g, 0, none⟩ ∧ B ≤ g ∧ M g = some (.row 97 (ak * 8) (List.map AP.cells ps).flatten) ∧ ps.length = an ∧ FreshP B M ps
  log : qn = 0 ∨ ∃ h cs, qa = some ⟨h, 0, none⟩ ∧ B ≤ h ∧ M h = some (.row 64 (qk * 8) cs) ∧ qn * 8 ≤ cs.length

theorem MtgAt.freshMt {B B' : Nat} {M : Mem} {mb g ak : Nat} {ho : Option Nat} {qk : Nat} {acts : List ActV} {log : List QV} (h : MtgAt B M mb g ak ho qk acts log) (hb : B' ≤ B) (hg : B' ≤ g) (hh : ∀ h, ho = some h → B' ≤ h) : FreshMt B' M (some ⟨g, 0, none⟩) acts.length ak (hadr ho) log.length qk := by
  obtain ⟨ps, Mc, r1, r2, r3, r4, r5, r6⟩ := h.row
  refine ⟨.inr ⟨g, ps, rfl, hg, r1, r5.length, fun p hp => (r6 p hp).mono hb⟩, ?_⟩
  rcases h.logAt with ⟨_, e, _⟩ | ⟨b, e1, e2, _, _⟩
  · exact .inl (by rw [e]; rfl)
  · refine .inr ⟨b, _, by rw [e1]; rfl, hh b e1, e2, ?_⟩
    have : ∀ l : List QV, ((l.map QV.cells).flatten).length = l.length * 8 := fun l => by
      induction l with
      | nil => rfl
      | cons y l ih => simp [ih]; omega
    rw [this]
    exact Nat.le_refl _

def MtPostF (m : MtV) (B : Nat) (M' : Mem) (v : Value) : Prop := ∃ aa ak qa qk, v = MV aa m.acts.length ak qa m.log.length qk ∧ RActs M' aa m.acts.length ak m.acts ∧ RQ M' qa m.log.length qk m.log ∧ FreshMt B M' aa m.acts.length ak qa m.log.length qk
theorem MtPostF.post {m : MtV} {B : Nat} {M' : Mem} {v : Value} (h : MtPostF m B M' v) : MtPost m M' v := let ⟨aa, ak, qa, qk, h1, h2, h3, _⟩ := h; ⟨aa, ak, qa, qk, h1, h2, h3⟩
theorem MtPostF.zero (B : Nat) (M : Mem) : MtPostF mt0 B M (MV none 0 0 none 0 0) := ⟨none, 0, none, 0, rfl, RdL.nil' .., RdL.nil' .., .inl rfl, .inl rfl⟩

theorem MtPost.zero (M : Mem) : MtPost mt0 M (MV none 0 0 none 0 0) := ⟨none, 0, none, 0, rfl, RdL.nil' .., RdL.nil' ..⟩

def RunPost (r : MtV × Nat × Int) (M' : Mem) (v : Value) : Prop := ∃ u, v = .tuple #[u, EV (r.2.1 : Nat), EV r.2.2] ∧ MtPost r.1 M' u

set_option maxHeartbeats 2000000 in
set_option maxRecDepth 100000 in
theorem run_spec {acts : List ActV} {log l : List QV} {M : Mem} {aa qa la : Option Addr} {an ak qn qk ln lk : Nat} (h : RActs M aa an ak acts) (hq : RQ M qa qn qk log) (hl : RQ M la ln lk l) :
    Spec 15 #[MV aa an ak qa qn qk, SV la ln lk] M fun _ M' v => RunPost (runR ⟨acts, log⟩ l) M' v := by
  have hn := h.len
  have hqn := hq.len
  have hln := hl.len
  refine ok15.spec 300 [MA aa an ak qa qn qk, SA la ln lk] rfl (by kernel_rfl) fun c K hK => ?_
  conv => cbv
  refine CallS.spec (meetCheck_spec h hq) rfl fun B1 M1 v1 hB1 hlt1 hk1 hn1 ev1 => ⟨EA (meetC acts log), rfl, ev1.symm, ?_⟩
  conv => cbv
  refine ⟨fun h1 => ?_, fun h1 => ?_⟩
  · replace h1 := of_decide_eq_true h1
    try simp only [nc] at h1
    try simp only [minF_t] at h1
    try simp only [minF_f] at h1
    try dsimp only at h1
    refine hK.ground rfl hk1 ?_
    rw [runR, if_pos h1]
    exact ⟨_, rfl, MtPost.zero _⟩
  · replace h1 := of_decide_eq_false h1
    try simp only [nc] at h1
    try simp only [minF_t] at h1
    try simp only [minF_f] at h1
    try dsimp only at h1
    have h1 : meetC acts log = 0 := by omega
    have h1' : ¬ meetC acts log ≠ 0 := by omega
    obtain ⟨d1, d2, d3, d4, d5⟩ := meetC_ok h1
    refine ⟨fun h2 => ?_, fun h2 => ?_⟩
    · replace h2 := of_decide_eq_true h2
      try simp only [nc] at h2
      try simp only [minF_t] at h2
      try simp only [minF_f] at h2
      try dsimp only at h2
      refine hK.ground rfl hk1 ?_
      rw [runR, if_neg h1', if_pos (by omega)]
      exact ⟨_, rfl, MtPost.zero _⟩
    · replace h2 := of_decide_eq_false h2
      try simp only [nc] at h2
      try simp only [minF_t] at h2
      try simp only [minF_f] at h2
      try dsimp only at h2
      have hR : runR ⟨acts, log⟩ l = runM ⟨acts, log⟩ l 0 := by rw [runR, if_neg h1', if_neg (by omega)]
      rw [hR] at hK
      refine CallS.spec (begin_spec (h.up ElA.up hk1.le) (hq.up ElQ.up hk1.le) (small_of h1) (by omega)) rfl fun B2 M2 v2 hB2 hlt2 hk2 hn2 ⟨mb, g, gk, ho, qk', ev2, bm, bg, bh, hmt⟩ => ⟨PA mb, rfl, ev2.symm, ?_⟩
      have kp2 := keep_trans hk1.keep hk2.keep
      conv => cbv
      refine OKS.loopH (fun (p : Nat × Mem × MtV × Option Nat × Nat) => p.1 ≤ ln ∧ MtgAt B2 p.2.1 mb g gk p.2.2.2.1 p.2.2.2.2 p.2.2.1.acts p.2.2.1.log ∧ meetC p.2.2.1.acts p.2.2.1.log = 0 ∧ (∀ b, M b ≠ none → p.2.1 b = M b) ∧ runM p.2.2.1 (l.drop p.1) p.1 = runM ⟨acts, log⟩ l 0 ∧ ∀ h, p.2.2.2.1 = some h → c.B0 ≤ h)
        (fun p => [(30, EA p.1)]) (fun _ => [(11, .none), (12, .none)]) (fun p => p.2.1) (fun p => ln - p.1) (0, M2, ⟨acts, log⟩, ho, qk') ⟨by simp, hmt, h1, kp2, by simp, fun h e => Nat.le_trans hB2 (bh h e)⟩ ?_ ?_
      · refine ⟨by cbv <;> simp, by cbv <;> simp, by cbv, Mem.le_refl _⟩
      · intro ⟨i, Mi, mt, hoi, qki⟩ ⟨hi1, hmi, hci, hkp, hrun, hhi⟩ ih
        simp only at hi1 hmi hci hkp hrun hhi
        obtain ⟨f1, f2, f3, f4, f5⟩ := meetC_ok hci
        have hlM := hl.up ElQ.up (le_of_keep hkp)
        refine ok15.go 100 (by kernel_rfl) ?_
        conv => cbv
        refine ⟨fun l1 => ?_, fun l1 => ?_⟩
        · replace l1 := of_decide_eq_true l1
          try simp only [nc] at l1
          try simp only [minF_t] at l1
          try simp only [minF_f] at l1
          try dsimp only at l1
          obtain ⟨b, o, ea, hp, hw⟩ := hlM.query (i := i) (by omega)
          rw [runM_cons (by omega)] at hrun
          refine .mk b o i ea rfl (by show i < ln; omega) ?_
          conv => cbv
          refine .mk l[i].avs rfl rfl hp ?_
          conv => cbv
          have hLM := LM_in hmi (Nat.le_trans hB2 bm) (Nat.le_trans hB2 bg) hhi
          refine CallS.specU (step_spec hw hmi f3 (asked_of hci)) rfl (fun b hb => ⟨(hLM b hb).1, .inl (hLM b hb).2⟩) (.inl rfl) fun B3 M3 v3 hB3 hlt3 hk3 hn3 ⟨ev3, ho3, qk3, hm3, hh3⟩ => ⟨.tup [RA (stepE mt l[i]).1, EA (stepE mt l[i]).2], rfl, ev3.symm, ?_⟩
          have kp3 : ∀ b, M b ≠ none → M3 b = M b := fun b hb => by
            rw [hk3 b (by rw [hkp b hb]; exact hb) ?_, hkp b hb]
            cases hc : LM mb g hoi b with
            | false => rfl
            | true => have := (hLM b hc).2; have := hK.lt b hb; omega
          conv => cbv
          refine ⟨fun e1 => ?_, fun e1 => ?_⟩
          · replace e1 := of_decide_eq_true e1
            try simp only [nc] at e1
            try simp only [minF_t] at e1
            try simp only [minF_f] at e1
            try dsimp only at e1
            rw [if_pos e1] at hrun
            rw [stepM_bad e1] at hm3
            refine .mk [SA (some ⟨g, 0, none⟩) mt.acts.length gk, SA (hadr ho3) mt.log.length qk3] rfl rfl (CellsAt.obj hm3.obj) ?_
            conv => cbv
            refine hK.ground rfl (Keeps.of_keep kp3) ?_
            rw [← hrun]
            exact ⟨_, rfl, _, _, _, _, rfl, hm3.actsR, hm3.logR⟩
          · replace e1 := of_decide_eq_false e1
            try simp only [nc] at e1
            try simp only [minF_t] at e1
            try simp only [minF_f] at e1
            try dsimp only at e1
            rw [if_neg e1] at hrun
            refine .i64 ((i + 1 : Nat) : Int) (by show (i : Int) + 1 = _; omega) (by omega) (by omega) ?_
            conv => cbv
            have hok := stepM_ok (q := l[i]) hci (by omega)
            obtain ⟨mt', hmt'⟩ : ∃ mt', stepM mt l[i] = mt' := ⟨_, rfl⟩
            rw [hmt'] at hm3 hok hrun
            refine ih (i + 1, M3, mt', ho3, qk3) ⟨by simp only; omega, hm3, hok, kp3, hrun, fun h e => ?_⟩ (by simp only; omega) _ ?_
            · rcases hh3 h e with e' | e'
              · exact hhi h e'
              · exact Nat.le_trans hB3 e'
            · refine ⟨by cbv <;> simp, by cbv <;> simp, by cbv, Mem.le_refl _⟩
        · replace l1 := of_decide_eq_false l1
          try simp only [nc] at l1
          try simp only [minF_t] at l1
          try simp only [minF_f] at l1
          try dsimp only at l1
          have e1 : l.drop i = [] := List.drop_eq_nil_of_le (by omega)
          rw [e1] at hrun
          have : i = ln := by omega
          subst this
          refine .mk [SA (some ⟨g, 0, none⟩) mt.acts.length gk, SA (hadr hoi) mt.log.length qki] rfl rfl (CellsAt.obj hmi.obj) ?_
          conv => cbv
          refine hK.ground rfl (Keeps.of_keep hkp) ?_
          rw [← hrun]
          exact ⟨_, rfl, _, _, _, _, rfl, hmi.actsR, hmi.logR⟩

def openR (acts : List ActV) : MtV := if meetC acts [] = 0 then ⟨acts, []⟩ else mt0

set_option maxRecDepth 100000 in
theorem open36F_spec {acts : List ActV} {M : Mem} {aa : Option Addr} {an ak : Nat} (h : RActs M aa an ak acts) :
    Spec 50 #[SV aa an ak] M fun B M' v => ∃ u, v = .tuple #[u, EV (meetC acts [])] ∧ MtPostF (openR acts) B M' u := by
  refine ok50.spec 300 [SA aa an ak] rfl (by kernel_rfl) fun c K hK => ?_
  conv => cbv
  refine CallS.spec (meetCheck_spec h (RdL.nil' ..)) rfl fun B1 M1 v1 hB1 hlt1 hk1 hn1 ev1 => ⟨EA (meetC acts []), rfl, ev1.symm, ?_⟩
  conv => cbv
  refine ⟨fun h1 => ?_, fun h1 => ?_⟩
  · replace h1 := of_decide_eq_true h1
    try simp only [nc] at h1
    try simp only [minF_t] at h1
    try simp only [minF_f] at h1
    try dsimp only at h1
    refine hK.ground rfl hk1 ?_
    rw [openR, if_neg h1]
    exact ⟨_, rfl, MtPostF.zero _ _⟩
  · replace h1 := of_decide_eq_false h1
    try simp only [nc] at h1
    try simp only [minF_t] at h1
    try simp only [minF_f] at h1
    try dsimp only at h1
    have h1 : meetC acts [] = 0 := by omega
    refine CallS.spec (begin_spec (h.up ElA.up hk1.le) (RdL.nil' ..) (small_of h1) (by omega)) rfl fun B2 M2 v2 hB2 hlt2 hk2 hn2 ⟨mb, g, gk, ho, qk', ev2, bm, bg, bh, hmt⟩ => ⟨PA mb, rfl, ev2.symm, ?_⟩
    conv => cbv
    refine .mk [SA (some ⟨g, 0, none⟩) acts.length gk, SA (hadr ho) ([] : List QV).length qk'] rfl rfl (CellsAt.obj hmt.obj) ?_
    conv => cbv
    refine hK.ground rfl (hk1.trans hk2) ?_
    rw [openR, if_pos h1, h1]
    exact ⟨_, rfl, _, _, _, _, rfl, hmt.actsR, hmt.logR, hmt.freshMt hB2 (Nat.le_trans hB2 bg) (fun h e => Nat.le_trans hB2 (bh h e))⟩

theorem open36_spec {acts : List ActV} {M : Mem} {aa : Option Addr} {an ak : Nat} (h : RActs M aa an ak acts) :
    Spec 50 #[SV aa an ak] M fun _ M' v => ∃ u, v = .tuple #[u, EV (meetC acts [])] ∧ MtPost (openR acts) M' u :=
  (open36F_spec h).mono fun _ _ _ _ ⟨u, h1, h2⟩ => ⟨u, h1, h2.post⟩

def askR (m : MtV) (q : QV) : MtV × R × Int :=
  if meetC m.acts m.log ≠ 0 then (mt0, R.zero, meetC m.acts m.log) else if (stepE m q).2 ≠ 0 then (mt0, R.zero, (stepE m q).2) else (stepM m q, (stepE m q).1, 0)

def AskRPost (r : MtV × R × Int) (M' : Mem) (v : Value) : Prop := ∃ u, v = .tuple #[u, RV r.2.1, EV r.2.2] ∧ MtPost r.1 M' u

def AskRPostF (r : MtV × R × Int) (B : Nat) (M' : Mem) (v : Value) : Prop := ∃ u, v = .tuple #[u, RV r.2.1, EV r.2.2] ∧ MtPostF r.1 B M' u

set_option maxRecDepth 100000 in
theorem ask36F_spec {acts : List ActV} {log : List QV} {M : Mem} {aa qa : Option Addr} {an ak qn qk : Nat} (h : RActs M aa an ak acts) (hq : RQ M qa qn qk log) (ag kind : Int) (hag : I64 ag) (hkd : 0 ≤ kind ∧ kind < 256) (a b : R) (ha : a.Wf) (hb : b.Wf) :
    Spec 52 #[MV aa an ak qa qn qk, EV ag, .int .u8 kind, RV a, RV b] M fun B M' v => AskRPostF (askR ⟨acts, log⟩ ⟨ag, kind, a, b, R.zero⟩) B M' v := by
  have hn := h.len
  have hqn := hq.len
  refine ok52.spec 300 [MA aa an ak qa qn qk, EA ag, .sym .u8 fun _ => kind, RA a, RA b] rfl (by kernel_rfl) fun c K hK => ?_
  conv => cbv
  refine CallS.spec (meetCheck_spec h hq) rfl fun B1 M1 v1 hB1 hlt1 hk1 hn1 ev1 => ⟨EA (meetC acts log), rfl, ev1.symm, ?_⟩
  conv => cbv
  refine ⟨fun h1 => ?_, fun h1 => ?_⟩
  · replace h1 := of_decide_eq_true h1
    try simp only [nc] at h1
    try simp only [minF_t] at h1
    try simp only [minF_f] at h1
    try dsimp only at h1
    refine hK.ground rfl hk1 ?_
    rw [askR, if_pos h1]
    exact ⟨_, rfl, MtPostF.zero _ _⟩
  · replace h1 := of_decide_eq_false h1
    try simp only [nc] at h1
    try simp only [minF_t] at h1
    try simp only [minF_f] at h1
    try dsimp only at h1
    have h1 : meetC acts log = 0 := by omega
    have h1' : ¬ meetC acts log ≠ 0 := by omega
    obtain ⟨d1, d2, d3, d4, d5⟩ := meetC_ok h1
    refine CallS.spec (begin_spec (h.up ElA.up hk1.le) (hq.up ElQ.up hk1.le) (small_of h1) (by omega)) rfl fun B2 M2 v2 hB2 hlt2 hk2 hn2 ⟨mb, g, gk, ho, qk', ev2, bm, bg, bh, hmt⟩ => ⟨PA mb, rfl, ev2.symm, ?_⟩
    have kp2 := keep_trans hk1.keep hk2.keep
    conv => cbv
    have hLM := LM_in hmt (Nat.le_trans hB2 bm) (Nat.le_trans hB2 bg) (fun h e => Nat.le_trans hB2 (bh h e))
    obtain ⟨q, hqe⟩ : ∃ q : QV, q = ⟨ag, kind, a, b, R.zero⟩ := ⟨_, rfl⟩
    have hqw : q.Wf := by rw [hqe]; exact ⟨hag, hkd, ha, hb, zeroR_wf⟩
    rw [← hqe] at hK
    refine CallS.specU (step_spec (m := ⟨acts, log⟩) hqw hmt d3 (asked_of h1)) (by rw [hqe]; rfl) (fun b hb => ⟨(hLM b hb).1, .inl (hLM b hb).2⟩) (.inl rfl) fun B3 M3 v3 hB3 hlt3 hk3 hn3 ⟨ev3, ho3, qk3, hm3, hh3⟩ => ⟨.tup [RA (stepE ⟨acts, log⟩ q).1, EA (stepE ⟨acts, log⟩ q).2], rfl, ev3.symm, ?_⟩
    have kp3 : ∀ b, M b ≠ none → M3 b = M b := fun b hb => by
      rw [hk3 b (by rw [kp2 b hb]; exact hb) ?_, kp2 b hb]
      cases hc : LM mb g ho b with
      | false => rfl
      | true => have := (hLM b hc).2; have := hK.lt b hb; omega
    conv => cbv
    refine ⟨fun e1 => ?_, fun e1 => ?_⟩
    · replace e1 := of_decide_eq_true e1
      try simp only [nc] at e1
      try simp only [minF_t] at e1
      try simp only [minF_f] at e1
      try dsimp only at e1
      refine hK.ground rfl (Keeps.of_keep kp3) ?_
      rw [askR, if_neg h1', if_pos e1]
      exact ⟨_, rfl, MtPostF.zero _ _⟩
    · replace e1 := of_decide_eq_false e1
      try simp only [nc] at e1
      try simp only [minF_t] at e1
      try simp only [minF_f] at e1
      try dsimp only at e1
      refine .mk [SA (some ⟨g, 0, none⟩) (stepM ⟨acts, log⟩ q).acts.length gk, SA (hadr ho3) (stepM ⟨acts, log⟩ q).log.length qk3] rfl rfl (CellsAt.obj hm3.obj) ?_
      conv => cbv
      refine hK.ground rfl (Keeps.of_keep kp3) ?_
      rw [askR, if_neg h1', if_neg e1]
      exact ⟨_, rfl, _, _, _, _, rfl, hm3.actsR, hm3.logR, hm3.freshMt hB2 (Nat.le_trans hB2 bg) (fun h e => (hh3 h e).elim (fun e => Nat.le_trans hB2 (bh h e)) (fun e => Nat.le_trans hB3 e))⟩

theorem ask36_spec {acts : List ActV} {log : List QV} {M : Mem} {aa qa : Option Addr} {an ak qn qk : Nat} (h : RActs M aa an ak acts) (hq : RQ M qa qn qk log) (ag kind : Int) (hag : I64 ag) (hkd : 0 ≤ kind ∧ kind < 256) (a b : R) (ha : a.Wf) (hb : b.Wf) :
    Spec 52 #[MV aa an ak qa qn qk, EV ag, .int .u8 kind, RV a, RV b] M fun _ M' v => AskRPost (askR ⟨acts, log⟩ ⟨ag, kind, a, b, R.zero⟩) M' v :=
  (ask36F_spec h hq ag kind hag hkd a b ha hb).mono fun _ _ _ _ ⟨u, h1, h2⟩ => ⟨u, h1, h2.post⟩

end Go.SX
