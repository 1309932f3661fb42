/- Package ask: Value, Mark, Open. -/
import Derived.Test.YtojdihbanakhgaaAgO
namespace Go.SX
open Go.Proofs.Try Go.Proofs

/-- Some of what is known of memory is let go. -/
theorem OKS.forget {f : Nat} {c : Ct} {K : S → AV → Prop} {stk : List It} {s : S} (M2 : Mem) (h : M2.le s.M) (h' : OKS f c K stk (s.withM M2)) : OKS f c K stk s :=
  ⟨fun b cs ρ a w h1 h2 hw hg => h'.ok b cs ρ a w h1 h2 (hw.withM M2) (hg.weak (.withM h))⟩

theorem own_made {α : Type} {R : ElR α} {c : Ct} {M : Mem} {b e sz cap : Nat} (hb : c.B0 ≤ b) (hc : cap ≤ maxLen) : OwnL R c (M.set b (.row e (cap * sz) [])) e sz (some ⟨b, 0, none⟩) 0 cap [] :=
  ⟨rfl, [], ⟨by simp, .inr ⟨b, rfl, .inl hb, by simp [Mem.set], Nat.zero_le _, hc⟩⟩, trivial⟩

def askC (F : CakeV → R → R → R × Int) (cs : List CakeV) (n : Nat) (ag : Int) (a b : R) : R × Int :=
  if deskC cs n ≠ 0 then (R.zero, deskC cs n)
  else if hasC cs.length ag = false then (R.zero, 2)
  else if (F (getC cs ag) a b).2 ≠ 0 then (R.zero, (F (getC cs ag) a b).2)
  else if 2000 ≤ n then (R.zero, 4)
  else ((F (getC cs ag) a b).1, 0)

/-- What a desk that was asked comes to. -/
def AskPost (r : R × Int) (cs : List CakeV) (log : List QV) (q : QV) (M' : Mem) (v : Value) : Prop :=
  ∃ ca cn ck qa qn qk, v = .tuple #[DV ca cn ck qa qn qk, RV r.1, EV r.2] ∧ RC M' ca cn ck (if r.2 = 0 then cs else []) ∧ RQ M' qa qn qk (if r.2 = 0 then log ++ [⟨q.ag, q.kind, q.a, q.b, r.1⟩] else [])

theorem AskPost.bad {e : Int} (he : e ≠ 0) (cs : List CakeV) (log : List QV) (q : QV) (M : Mem) : AskPost (R.zero, e) cs log q M (.tuple #[DV none 0 0 none 0 0, RV R.zero, EV e]) :=
  ⟨none, 0, 0, none, 0, 0, rfl, by rw [if_neg he]; exact RdL.nil' .., by rw [if_neg he]; exact RdL.nil' ..⟩

theorem deskC_ok {cs : List CakeV} {n : Nat} (h : deskC cs n = 0) : 1 ≤ cs.length ∧ cs.length ≤ 6 ∧ n ≤ 2000 ∧ (∀ c ∈ cs, checkC c = 0) ∧ ∀ c ∈ cs, ∀ d ∈ cs, c.len = d.len := by
  have key : ∀ l : List CakeV, firstE l = 0 → ∀ c ∈ l, checkC c = 0 := by
    intro l
    induction l with
    | nil => intro _ c hc; cases hc
    | cons x l ih =>
      intro h c hc
      simp only [firstE] at h
      split at h
      · rename_i h1; exact absurd h h1
      · rename_i h1
        rcases List.mem_cons.1 hc with rfl | hc
        · exact Decidable.byContradiction h1
        · exact ih h c hc
  by_cases h1 : 6 < cs.length ∨ 2000 < n
  · rw [deskC_many h1] at h; omega
  · cases cs with
    | nil => rw [deskC_nil (by omega)] at h; omega
    | cons c0 l =>
      rw [deskC_ne h1 (by simp)] at h
      split at h
      · rename_i h2; exact absurd h h2
      · rename_i h2
        split at h
        · rename_i h3
          have h3 := List.all_eq_true.1 h3
          refine ⟨by simp, by omega, by omega, key _ (Decidable.byContradiction h2), fun c hc d hd => ?_⟩
          have e1 := h3 c hc
          have e2 := h3 d hd
          simp only [decide_eq_true_eq] at e1 e2
          rw [e1, e2]
        · omega

set_option maxHeartbeats 1000000 in
set_option maxRecDepth 100000 in
theorem ask_spec {g : Nat} {F : CakeV → R → R → R × Int} {cs : List CakeV} {log : List QV} {M : Mem} {ca qa : Option Addr} {cn ck qn qk : Nat} (h : RC M ca cn ck cs) (hq : RQ M qa qn qk log) {q : QV} (hqw : q.Wf)
    (hg : hasC cn q.ag = true → Pure1 g #[DV ca cn ck qa qn qk, EV q.ag, RV q.a, RV q.b] M (RE (F (getC cs q.ag) q.a q.b))) (hF : (F (getC cs q.ag) q.a q.b).1.Wf) :
    Spec 87 (AV.vals [DA ca cn ck qa qn qk, .agg q.avs, .clo (.func g) [DA ca cn ck qa qn qk] []]) M fun _ M' v => AskPost (askC F cs qn q.ag q.a q.b) cs log q M' v := by
  have hn := h.len
  have hqn := hq.len
  refine ok87.spec 30 [DA ca cn ck qa qn qk, .agg q.avs, .clo (.func g) [DA ca cn ck qa qn qk] []] rfl (by kernel_rfl) fun c K hK => ?_
  conv => cbv
  refine CallS.pure (askCheck_spec h) rfl (EA (deskC cs qn)) rfl rfl ?_
  conv => cbv
  refine ⟨fun h1 => ?_, fun h1 => ?_⟩
  · replace h1 := of_decide_eq_true h1
    try simp only [nc] at h1
    try simp only [minF_t] at h1
    try simp only [minF_f] at h1
    try dsimp only at h1
    refine hK.ground rfl (Keeps.refl _ _) ?_
    rw [askC, if_pos h1]
    exact AskPost.bad h1 ..
  · replace h1 := of_decide_eq_false h1
    try simp only [nc] at h1
    try simp only [minF_t] at h1
    try simp only [minF_f] at h1
    try dsimp only at h1
    have h1 : deskC cs qn = 0 := by omega
    obtain ⟨d1, d2, d3, d4, d5⟩ := deskC_ok h1
    refine CallS.pure (has_spec q.ag) rfl (.sb fun _ => hasC cn q.ag) rfl rfl ?_
    conv => cbv
    refine ⟨fun h2 => ?_, fun h2 => ?_⟩
    · replace h2 : (!hasC cn q.ag) = true := h2
      have h2 : hasC cs.length q.ag = false := by rw [← hn]; simpa using h2
      refine hK.ground rfl (Keeps.refl _ _) ?_
      rw [askC, if_neg (by omega), if_pos h2]
      exact AskPost.bad (by omega) ..
    · replace h2 : (!hasC cn q.ag) = false := h2
      have h2 : hasC cn q.ag = true := by simpa using h2
      have h2n : ¬ hasC cs.length q.ag = false := by rw [← hn, h2]; simp
      obtain ⟨r, hr⟩ : ∃ r, F (getC cs q.ag) q.a q.b = r := ⟨_, rfl⟩
      have hg := hg h2
      rw [hr] at hg hF
      refine CallS.pure hg rfl (REA r) rfl rfl ?_
      conv => cbv
      refine ⟨fun h3 => ?_, fun h3 => ?_⟩
      · replace h3 := of_decide_eq_true h3
        try simp only [nc] at h3
        try simp only [minF_t] at h3
        try simp only [minF_f] at h3
        try dsimp only at h3
        refine hK.ground rfl (Keeps.refl _ _) ?_
        rw [askC, if_neg (by omega), if_neg h2n, hr, if_pos h3]
        exact AskPost.bad h3 ..
      · replace h3 := of_decide_eq_false h3
        try simp only [nc] at h3
        try simp only [minF_t] at h3
        try simp only [minF_f] at h3
        try dsimp only at h3
        refine ⟨fun h4 => ?_, fun h4 => ?_⟩
        · replace h4 := of_decide_eq_true h4
          try simp only [nc] at h4
          try simp only [minF_t] at h4
          try simp only [minF_f] at h4
          try dsimp only at h4
          refine hK.ground rfl (Keeps.refl _ _) ?_
          rw [askC, if_neg (by omega), if_neg h2n, hr, if_neg h3, if_pos (by omega)]
          exact AskPost.bad (by omega) ..
        · replace h4 := of_decide_eq_false h4
          try simp only [nc] at h4
          try simp only [minF_t] at h4
          try simp only [minF_f] at h4
          try dsimp only at h4
          have hres : askC F cs qn q.ag q.a q.b = (r.1, 0) := by
            rw [askC, if_neg (by omega), if_neg h2n, hr, if_neg h3, if_neg (by omega)]
          rw [hres] at hK
          refine .i64 ((qn + 1 : Nat) : Int) (by show (qn : Int) + 1 = _; omega) (by omega) (by omega) ?_
          conv => cbv
          refine .mk ⟨Int.le_refl 0, by show (0 : Int) ≤ ((qn + 1 : Nat) : Int); omega, by show ((qn + 1 : Nat) : Int) * ((64 : Nat) : Int) ≤ 281474976710656; omega, by show ((qn + 1 : Nat) : Int) ≤ 9223372036854775807; omega⟩ fun b1 M1 hn1 hB1 hM1 => ?_
          conv => cbv
          obtain ⟨zs, hzs⟩ : ∃ zs, M1 = M.set b1 (.row 64 ((qn + 1) * 8) zs) := ⟨_, hM1⟩
          have hM2le : (M.set b1 (.row 64 ((qn + 1) * 8) [])).le M1 := by
            rw [hzs]
            intro b f hb
            unfold Mem.set at hb ⊢
            by_cases e : b = b1
            · rw [if_pos e] at hb ⊢
              cases hb
              exact ⟨_, rfl, rfl, rfl, zs, rfl⟩
            · rw [if_neg e] at hb ⊢
              exact ⟨f, hb, f.le_refl⟩
          have kp0 : ∀ b, M b ≠ none → (M.set b1 (.row 64 ((qn + 1) * 8) [])) b = M b := keep_set hn1
          have hown0 : OwnL ElQ c (M.set b1 (.row 64 ((qn + 1) * 8) [])) 64 8 (some ⟨b1, 0, none⟩) 0 (qn + 1) [] := own_made hB1 (by simp only [maxLen]; omega)
          refine OKS.forget (M.set b1 (.row 64 ((qn + 1) * 8) [])) hM2le ?_
          obtain ⟨M2, hM2⟩ : ∃ M2, M2 = M.set b1 (.row 64 ((qn + 1) * 8) []) := ⟨_, rfl⟩
          rw [← hM2] at kp0 hown0 ⊢
          refine ok87.go 100 (by kernel_rfl) ?_
          conv => cbv
          refine CallS.spec (copied_spec (h.up ElC.up (le_of_keep kp0)) (by omega) (fun c hc => by have g := good (d4 c hc); have := g.n2; have := g.n3; omega)) rfl fun B3 M3 v3 hB3 hlt3 hk3 hn3 ⟨a3, k3, ev3, h3⟩ => ⟨SA a3 cn k3, rfl, ev3.symm, ?_⟩
          conv => cbv
          have hown3 := hown0.keep ElQ.up hk3.keep
          have kp3 := keep_trans kp0 hk3.keep
          refine AppS.list (t := 23) (ti := ti23) (ei := ti64) rfl rfl rfl (by decide) rfl ElQ.up ElQ.one hown3 (hq.up ElQ.up (le_of_keep kp3)) (by simp only [maxLen]; omega) (by show (0 + qn) * 64 ≤ _; omega) fun M4 a4 k4 h4 g4 => ?_
          conv => cbv
          have kp4 := keep_app kp3 hK.lt hK.lent hown3 g4
          refine .mk trivial fun b5 M5 hn5 hB5 hM5 => ?_
          conv => cbv
          obtain ⟨q', hq'⟩ : ∃ q' : QV, q' = ⟨q.ag, q.kind, q.a, q.b, r.1⟩ := ⟨_, rfl⟩
          have hM5' : M5 = M4.set b5 (.row 64 8 q'.cells) := by rw [hq']; exact hM5
          have kp45 : ∀ b, M4 b ≠ none → M5 b = M4 b := by rw [hM5']; exact keep_set hn5
          have hqw' : q'.Wf := by rw [hq']; exact ⟨hqw.ag, hqw.kind, hqw.a, hqw.b, hF⟩
          have hone : RQ M5 (some ⟨b5, 0, none⟩) 1 1 [q'] := RdL.one (fun _ _ _ => trivial) (CellsAt.new hM5') rfl ⟨rfl, hqw'⟩ (by omega)
          have h5 := h4.keep ElQ.up kp45
          refine AppS.list (t := 23) (ti := ti23) (ei := ti64) rfl rfl rfl (by decide) rfl ElQ.up ElQ.one h5 hone (by simp only [maxLen]; omega) (by show (0 + qn + 1) * 64 ≤ _; omega) fun M6 a6 k6 h6 g6 => ?_
          conv => cbv
          have kp6 := keep_app (keep_trans kp4 kp45) hK.lt hK.lent h5 g6
          have hlog : RQ M6 a6 (0 + qn + 1) k6 ([] ++ log ++ [q']) := h6.rd
          rw [List.nil_append] at hlog
          refine hK.ground rfl (Keeps.of_keep kp6) ⟨a3, cn, k3, a6, 0 + qn + 1, k6, rfl, ?_, ?_⟩
          · rw [if_pos rfl]
            exact ((h3.up ElC.up g4.le).up ElC.up (le_of_keep kp45)).up ElC.up g6.le
          · rw [if_pos rfl, ← hq']
            exact hlog

theorem askValue_spec {cs : List CakeV} {log : List QV} {M : Mem} {ca qa : Option Addr} {cn ck qn qk : Nat} (h : RC M ca cn ck cs) (hq : RQ M qa qn qk log) (ag : Int) (hag : I64 ag) (a b : R) (ha : a.Wf) (hb : b.Wf) :
    Spec 33 #[DV ca cn ck qa qn qk, EV ag, RV a, RV b] M fun _ M' v => AskPost (askC valueC cs qn ag a b) cs log ⟨ag, 1, a, b, R.zero⟩ M' v := by
  refine ok33.spec 200 [DA ca cn ck qa qn qk, EA ag, RA a, RA b] rfl (by kernel_rfl) fun c K hK => ?_
  conv => cbv
  refine CallS.spec (ask_spec (g := 88) (F := valueC) h hq (q := ⟨ag, 1, a, b, R.zero⟩) ⟨hag, by simp, ha, hb, zeroR_wf⟩ (fun hh => aValue_spec h hh a b ha hb) (wf_valueC _ _ _)) rfl fun B M' v hB hlt hk hn ⟨ca', cn', ck', qa', qn', qk', ev, h1, h2⟩ => ⟨.tup [DA ca' cn' ck' qa' qn' qk', RA (askC valueC cs qn ag a b).1, EA (askC valueC cs qn ag a b).2], rfl, ev.symm, ?_⟩
  conv => cbv
  exact hK.ground rfl hk ⟨ca', cn', ck', qa', qn', qk', rfl, h1, h2⟩

theorem askMark_spec {cs : List CakeV} {log : List QV} {M : Mem} {ca qa : Option Addr} {cn ck qn qk : Nat} (h : RC M ca cn ck cs) (hq : RQ M qa qn qk log) (ag : Int) (hag : I64 ag) (a b : R) (ha : a.Wf) (hb : b.Wf) :
    Spec 35 #[DV ca cn ck qa qn qk, EV ag, RV a, RV b] M fun _ M' v => AskPost (askC markC cs qn ag a b) cs log ⟨ag, 2, a, b, R.zero⟩ M' v := by
  refine ok35.spec 200 [DA ca cn ck qa qn qk, EA ag, RA a, RA b] rfl (by kernel_rfl) fun c K hK => ?_
  conv => cbv
  refine CallS.spec (ask_spec (g := 89) (F := markC) h hq (q := ⟨ag, 2, a, b, R.zero⟩) ⟨hag, by simp, ha, hb, zeroR_wf⟩ (fun hh => aMark_spec h hh a b ha hb) (wf_markC _ _ _ ha hb)) rfl fun B M' v hB hlt hk hn ⟨ca', cn', ck', qa', qn', qk', ev, h1, h2⟩ => ⟨.tup [DA ca' cn' ck' qa' qn' qk', RA (askC markC cs qn ag a b).1, EA (askC markC cs qn ag a b).2], rfl, ev.symm, ?_⟩
  conv => cbv
  exact hK.ground rfl hk ⟨ca', cn', ck', qa', qn', qk', rfl, h1, h2⟩

theorem askOpen_spec {cs : List CakeV} {M : Mem} {ca : Option Addr} {cn ck : Nat} (h : RC M ca cn ck cs) :
    Spec 37 #[SV ca cn ck] M fun _ M' v => ∃ ca' cn' ck', v = .tuple #[DV ca' cn' ck' none 0 0, EV (deskC cs 0)] ∧ RC M' ca' cn' ck' (if deskC cs 0 = 0 then cs else []) := by
  refine ok37.spec 200 [SA ca cn ck] rfl (by kernel_rfl) fun c K hK => ?_
  have hn := h.len
  conv => cbv
  refine CallS.pure (askCheck_spec h (qa := none) (qn := 0) (qk := 0)) rfl (EA (deskC cs 0)) rfl rfl ?_
  conv => cbv
  refine ⟨fun h1 => ?_, fun h1 => ?_⟩
  · replace h1 := of_decide_eq_true h1
    try simp only [nc] at h1
    try simp only [minF_t] at h1
    try simp only [minF_f] at h1
    try dsimp only at h1
    refine hK.ground rfl (Keeps.refl _ _) ⟨none, 0, 0, rfl, ?_⟩
    rw [if_neg h1]
    exact RdL.nil' ..
  · replace h1 := of_decide_eq_false h1
    try simp only [nc] at h1
    try simp only [minF_t] at h1
    try simp only [minF_f] at h1
    try dsimp only at h1
    have h1 : deskC cs 0 = 0 := by omega
    obtain ⟨d1, d2, d3, d4, d5⟩ := deskC_ok h1
    refine CallS.spec (copied_spec h (by omega) (fun c hc => by have g := good (d4 c hc); have := g.n2; have := g.n3; omega)) rfl fun B3 M3 v3 hB3 hlt3 hk3 hn3 ⟨a3, k3, ev3, h3⟩ => ⟨SA a3 cn k3, rfl, ev3.symm, ?_⟩
    conv => cbv
    refine hK.ground rfl hk3 ⟨a3, cn, k3, by rw [h1]; rfl, ?_⟩
    rw [if_pos h1]
    exact h3

end Go.SX
