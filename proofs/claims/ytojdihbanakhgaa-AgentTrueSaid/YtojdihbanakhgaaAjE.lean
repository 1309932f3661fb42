/- Layer 36: the reference opens, and tells who is honest. -/
import Derived.Test.YtojdihbanakhgaaRefAsk
import Derived.Test.YtojdihbanakhgaaAhI
import Derived.Test.YtojdihbanakhgaaAgW
namespace Go.SX
open Go.Proofs.Try Go.Proofs

set_option maxRecDepth 100000 in
theorem refOpen_spec {acts : List ActV} {M : Mem} {aa : Option Addr} {an ak : Nat} (h : RActs M aa an ak acts) :
    Spec 51 #[SV aa an ak] M fun _ M' v => ∃ u, v = .tuple #[u, EV (meetC acts [])] ∧ MtPost (openR acts) M' u := by
  have hn := h.len
  refine ok51.spec 300 [SA aa an ak] rfl (by kernel_rfl) fun c K hK => ?_
  conv => cbv
  refine CallS.spec (refMeet_spec h (RdL.nil' ..)) rfl fun B1 M1 v1 hB1 hlt1 hk1 hn1 ev1 => ⟨EA (meetC acts []), rfl, ev1.symm, ?_⟩
  conv => cbv
  refine ⟨fun h1 => ?_, fun h1 => ?_⟩
  · replace h1 := of_decide_eq_true h1
    try simp only [nc] at h1
    try simp only [minF_t] at h1
    try simp only [minF_f] at h1
    try dsimp only at h1
    refine hK.ground rfl hk1 ?_
    rw [openR, if_neg h1]
    exact ⟨_, rfl, MtPost.zero _⟩
  · replace h1 := of_decide_eq_false h1
    try simp only [nc] at h1
    try simp only [minF_t] at h1
    try simp only [minF_f] at h1
    try dsimp only at h1
    have h1 : meetC acts [] = 0 := by omega
    obtain ⟨d1, d2, d3, d4, d5⟩ := meetC_ok h1
    refine CallS.spec (twin36_spec (h.up ElA.up hk1.le) (RdL.nil' ..) (by omega) (small_of h1).z (by omega)) rfl fun B2 M2 v2 hB2 hlt2 hk2 hn2 ⟨a2, k2, q2, j2, ev2, ra2, rq2⟩ => ⟨MA a2 acts.length k2 q2 ([] : List QV).length j2, rfl, ev2.symm, ?_⟩
    conv => cbv
    refine hK.ground rfl (hk1.trans hk2) ?_
    rw [openR, if_pos h1, h1]
    exact ⟨_, rfl, _, _, _, _, rfl, ra2, rq2⟩

set_option maxRecDepth 100000 in
theorem answer04_spec {cs : List CakeV} {M : Mem} {ca : Option Addr} {cn ck : Nat} (h : RC M ca cn ck cs) {q : QV} (hq : q.Wf) (hh : hasC cs.length q.ag = true) (hk : q.kind = 1 ∨ q.kind = 2) :
    Pure1 100 #[SV ca cn ck, .agg q.cells.toArray] M (RE (ansQ cs q)) := by
  have hn := h.len
  obtain ⟨i, hqi, hi⟩ := hasC_nat hh
  obtain ⟨bb, o, p, ea, hp, hck⟩ := h.cake hi
  have hg := getC_eq hqi hi
  refine ok100.pure 300 [SA ca cn ck, .agg q.avs] rfl (by kernel_rfl) fun c K hK => ?_
  conv => cbv
  refine ⟨fun h1 => ?_, fun h1 => ?_⟩
  · replace h1 := of_decide_eq_true h1
    try simp only [nc] at h1
    try simp only [minF_t] at h1
    try simp only [minF_f] at h1
    try dsimp only at h1
    refine .mk bb o i ea hqi (by show i < cn; omega) ?_
    conv => cbv
    refine .mk p.avs rfl rfl hp ?_
    conv => cbv
    obtain ⟨r, hr⟩ : ∃ r, valueC cs[i] q.a q.b = r := ⟨_, rfl⟩
    have hv := refValue_spec hck q.a q.b hq.a hq.b
    rw [hr] at hv
    refine CallS.pure hv rfl (REA r) rfl rfl ?_
    conv => cbv
    refine hK.pure rfl (Mem.le_refl _) ?_
    rw [ansQ, ansF, if_neg (by omega), hg, hr]
    rfl
  · replace h1 := of_decide_eq_false h1
    try simp only [nc] at h1
    try simp only [minF_t] at h1
    try simp only [minF_f] at h1
    try dsimp only at h1
    refine .mk bb o i ea hqi (by show i < cn; omega) ?_
    conv => cbv
    refine .mk p.avs rfl rfl hp ?_
    conv => cbv
    obtain ⟨r, hr⟩ : ∃ r, markC cs[i] q.a q.b = r := ⟨_, rfl⟩
    have hv := refMark_spec hck q.a q.b hq.a hq.b
    rw [hr] at hv
    refine CallS.pure hv rfl (REA r) rfl rfl ?_
    conv => cbv
    refine hK.pure rfl (Mem.le_refl _) ?_
    rw [ansQ, ansF, if_pos (by omega), hg, hr]
    rfl

set_option maxRecDepth 100000 in
theorem right04_spec {cs : List CakeV} {M : Mem} {ca : Option Addr} {cn ck : Nat} (h : RC M ca cn ck cs) {q : QV} (hq : q.Wf) :
    Pure1 67 #[SV ca cn ck, .agg q.cells.toArray] M (.bool (rightC cs q)) := by
  have hn := h.len
  refine ok67.pure 3 [SA ca cn ck, .agg q.avs] rfl (by kernel_rfl) fun c K hK => ?_
  conv => cbv
  refine OKS.cut (κ := Unit) (fun _ => hasC cn q.ag = true ∧ (q.kind = 1 ∨ q.kind = 2)) (fun _ => []) (fun _ => []) (fun _ => M) ?_ fun hj => ?_
  · intro _ ⟨hh, hkk⟩
    refine ok67.go 100 (by kernel_rfl) ?_
    conv => cbv
    obtain ⟨r, hr⟩ : ∃ r, ansQ cs q = r := ⟨_, rfl⟩
    have hs := answer04_spec h hq (by rw [← hn]; exact hh) hkk
    rw [hr] at hs
    refine CallS.pure hs rfl (REA r) rfl rfl ?_
    conv => cbv
    have hR : rightC cs q = (decide (r.2 = 0) && decide (r.1 = q.ans)) := by
      rw [rightC, hr, ← hn, hh, decide_eq_true (show 1 ≤ q.kind by omega), decide_eq_true (show q.kind ≤ 2 by omega)]
      simp
    refine ⟨fun e1 => ?_, fun e1 => ?_⟩
    · replace e1 := of_decide_eq_true e1
      try simp only [nc] at e1
      try simp only [minF_t] at e1
      try simp only [minF_f] at e1
      try dsimp only at e1
      refine hK.pure rfl (Mem.le_refl _) ?_
      have e3 : (decide (appU [fun _ => r.1.n, fun _ => r.1.d] = appU [fun _ => q.ans.n, fun _ => q.ans.d])) = decide (r.1 = q.ans) := by
        obtain ⟨⟨x, y⟩, z⟩ := r
        obtain ⟨_, _, _, _, ⟨u, v⟩⟩ := q
        simp [appU]
      rw [hR, decide_eq_true e1, Bool.true_and, ← e3]
      rfl
    · replace e1 := of_decide_eq_false e1
      try simp only [nc] at e1
      try simp only [minF_t] at e1
      try simp only [minF_f] at e1
      try dsimp only at e1
      refine hK.pure rfl (Mem.le_refl _) ?_
      rw [hR, decide_eq_false e1]
      rfl
  · refine ok67.go 100 (by kernel_rfl) ?_
    conv => cbv
    refine CallS.pure (agent_spec (qa := none) (qn := 0) (qk := 0) q.ag) rfl (.sb fun _ => hasC cn q.ag) rfl rfl ?_
    conv => cbv
    refine ⟨fun h1 => ?_, fun h1 => ?_⟩
    · have h1 : hasC cn q.ag = false := by simpa using h1
      refine hK.pure rfl (Mem.le_refl _) ?_
      rw [rightC, ← hn, h1]
      rfl
    · have h1 : hasC cn q.ag = true := by simpa using h1
      refine ⟨fun h2 => ?_, fun h2 => ?_⟩
      · replace h2 := of_decide_eq_true h2
        try simp only [nc] at h2
        try simp only [minF_t] at h2
        try simp only [minF_f] at h2
        try dsimp only at h2
        refine ⟨fun h3 => ?_, fun h3 => ?_⟩
        · replace h3 := of_decide_eq_true h3
          try simp only [nc] at h3
          try simp only [minF_t] at h3
          try simp only [minF_f] at h3
          try dsimp only at h3
          refine hK.pure rfl (Mem.le_refl _) ?_
          have : rightC cs q = false := by simp [rightC]; omega
          rw [this]
          rfl
        · replace h3 := of_decide_eq_false h3
          try simp only [nc] at h3
          try simp only [minF_t] at h3
          try simp only [minF_f] at h3
          try dsimp only at h3
          refine hj () ⟨h1, by omega⟩ _ ?_
          refine ⟨by cbv <;> simp, by cbv <;> simp, by cbv, Mem.le_refl _⟩
      · replace h2 := of_decide_eq_false h2
        try simp only [nc] at h2
        try simp only [minF_t] at h2
        try simp only [minF_f] at h2
        try dsimp only at h2
        refine hj () ⟨h1, by omega⟩ _ ?_
        refine ⟨by cbv <;> simp, by cbv <;> simp, by cbv, Mem.le_refl _⟩

end Go.SX
