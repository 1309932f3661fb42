/- Layer 36: the reference's copy, in rows of one's own. -/
import Derived.Test.YtojdihbanakhgaaAhF
import Derived.Test.YtojdihbanakhgaaAhH
import Derived.Test.YtojdihbanakhgaaAhC
import Derived.Test.YtojdihbanakhgaaAiH
namespace Go.SX
open Go.Proofs.Try Go.Proofs

structure MtRows (B : Nat) (M : Mem) (g ak : Nat) (ho : Option Nat) (qk : Nat) (acts : List ActV) (log : List QV) : Prop where
  gB : B ≤ g
  hB : ∀ h, ho = some h → B ≤ h
  row : ∃ ps Mc, M g = some (.row 97 (ak * 8) (List.map AP.cells ps).flatten) ∧ Mem.le Mc M ∧ Mc g = none ∧ All2 (fun p x => Ak Mc p x) ps acts
  cap : acts.length ≤ ak ∧ ak ≤ maxLen
  logAt : (ho = none ∧ log = [] ∧ qk = 0) ∨ ∃ h, ho = some h ∧ M h = some (.row 64 (qk * 8) (log.map QV.cells).flatten) ∧ log.length ≤ qk ∧ qk ≤ maxLen
  wf : ∀ q ∈ log, q.Wf

def TwinS (acts : List ActV) (log : List QV) (B : Nat) (M' : Mem) (v : Value) : Prop :=
  ∃ g ak ho qk, v = MV (some ⟨g, 0, none⟩) acts.length ak (hadr ho) log.length qk ∧ MtRows B M' g ak ho qk acts log

section
variable {B : Nat} {M M' : Mem} {g ak : Nat} {ho : Option Nat} {qk : Nat} {acts : List ActV} {log : List QV}
theorem MtRows.actsR (h : MtRows B M g ak ho qk acts log) : RActs M (some ⟨g, 0, none⟩) acts.length ak acts :=
  let ⟨ps, Mc, r1, r2, _, r5⟩ := h.row
  ⟨rfl, h.cap.1, (fun h => by cases h), ps.map AP.cells, RowAc.all (r5.mono fun _ _ hc => hc.up r2), fun _ => ⟨g, 0, rfl, CellsAt.row r1⟩⟩

theorem MtRows.logR (h : MtRows B M g ak ho qk acts log) : RQ M (hadr ho) log.length qk log := by
  rcases h.logAt with ⟨rfl, e, rfl⟩ | ⟨b, rfl, e2, e3, e4⟩
  · rw [e]; exact RdL.nil' ..
  · exact ⟨rfl, e3, (fun h => by cases h), log.map QV.cells, q_all2 h.wf, fun _ => ⟨b, 0, rfl, CellsAt.row e2⟩⟩
end

set_option maxRecDepth 100000 in
theorem twinD_spec {p : CP} {q : CakeV} {M : Mem} (h : Ck M p q) (hs1 : p.cn ≤ 1000000) (hs2 : p.dn ≤ 1000000) : Spec 48 #[p.val] M fun B M' v => ∃ p' : CP, v = p'.val ∧ Ck M' p' q ∧ DnsAt B M' p'.da p'.dn := by
  obtain ⟨len, ca, cn, ck, da, dn, dk⟩ := p
  obtain ⟨e1, hi, hc, hd⟩ := h
  simp only at e1 hc hd hs1 hs2
  subst e1
  refine ok48.spec 200 [.agg [EA q.len, SA ca cn ck, SA da dn dk]] rfl (by kernel_rfl) fun c K hK => ?_
  conv => cbv
  refine .mk trivial fun b1 M1 n1 B1 e1 => ?_
  have f1 : M1 = M.set b1 (.row 3 0 []) := e1
  have k1 : ∀ b, M b ≠ none → M1 b = M b := by rw [f1]; exact keep_set n1
  have o1 : OwnL (ElI .i64 I64) c M1 3 1 (some ⟨b1, 0, none⟩) 0 0 [] := OwnL.empty (by rw [f1]; simp [Mem.set]) B1
  conv => cbv
  refine AppS.list (t := 38) (ti := ti38) (ei := ti3) rfl rfl rfl (by decide) rfl (ElI.up _ _) ElI.one o1 (hc.up (ElI.up _ _) (le_of_keep k1)) (by simp only [maxLen]; omega) (by show (0 + cn) * 8 ≤ _; omega) fun M2 a2 c2 h2 g2 => ?_
  have k2 := keep_app k1 hK.lt hK.lent o1 g2
  have r2 : RI M2 a2 (0 + cn) c2 ([] ++ q.cuts) := h2.rd
  rw [List.nil_append] at r2
  conv => cbv
  refine .mk trivial fun b3 M3 n3 B3 e3 => ?_
  have f3 : M3 = M2.set b3 (.row 3 0 []) := e3
  have k3 : ∀ b, M2 b ≠ none → M3 b = M2 b := by rw [f3]; exact keep_set n3
  have o3 : OwnL (ElI .i64 I64) c M3 3 1 (some ⟨b3, 0, none⟩) 0 0 [] := OwnL.empty (by rw [f3]; simp [Mem.set]) B3
  have k03 := keep_trans k2 k3
  conv => cbv
  refine AppS.list (t := 38) (ti := ti38) (ei := ti3) rfl rfl rfl (by decide) rfl (ElI.up _ _) ElI.one o3 (hd.up (ElI.up _ _) (le_of_keep k03)) (by simp only [maxLen]; omega) (by show (0 + dn) * 8 ≤ _; omega) fun M4 a4 c4 h4 g4 => ?_
  have k4 := keep_app k03 hK.lt hK.lent o3 g4
  have r4 : RI M4 a4 (0 + dn) c4 ([] ++ q.dens) := h4.rd
  rw [List.nil_append] at r4
  conv => cbv
  refine hK.ground rfl (Keeps.of_keep k4) ⟨⟨q.len, a2, 0 + cn, c2, a4, 0 + dn, c4⟩, rfl, ⟨rfl, hi, (r2.up (ElI.up _ _) (le_of_keep k3)).up (ElI.up _ _) g4.le, r4⟩, h4.dns hK.lent⟩

set_option maxHeartbeats 1000000 in
set_option maxRecDepth 100000 in
theorem twin36s_spec {acts : List ActV} {log : List QV} {M : Mem} {aa qa : Option Addr} {an ak qn qk : Nat} (h : RActs M aa an ak acts) (hq : RQ M qa qn qk log) (hs : Small acts) (hqs : qn ≤ 1000000) :
    Spec 49 #[MV aa an ak qa qn qk] M (TwinS acts log) := by
  have hn := h.len
  have hqn := hq.len
  have s1 := hs.n1
  have s2 := hs.n2
  refine ok49.spec 200 [MA aa an ak qa qn qk] rfl (by kernel_rfl) fun c K hK => ?_
  conv => cbv
  refine OKS.loopH (fun (p : Nat × Mem × Option Addr × Nat) => p.1 ≤ an ∧ RowAc c p.2.1 p.2.2.1 p.1 p.2.2.2 (acts.take p.1) ∧ ∀ b, M b ≠ none → p.2.1 b = M b)
    (fun p => [(4, EA p.1)]) (fun p => [(5, .none), (3, .cells 25 [SA p.2.2.1 p.1 p.2.2.2, .nils])]) (fun p => p.2.1) (fun p => an - p.1) (0, M, none, 0) ⟨by simp, RowAc.nil, fun _ _ => rfl⟩ ?_ ?_
  · refine ⟨by cbv <;> simp, by cbv <;> simp, by cbv, Mem.le_refl _⟩
  · intro ⟨i, Mi, a', k'⟩ ⟨hi1, hown, hkp⟩ ih
    simp only at hi1 hown hkp
    refine ok49.go 100 (by kernel_rfl) ?_
    conv => cbv
    refine ⟨fun l1 => ?_, fun l1 => ?_⟩
    · replace l1 := of_decide_eq_true l1
      try simp only [nc] at l1
      try simp only [minF_t] at l1
      try simp only [minF_f] at l1
      try dsimp only at l1
      obtain ⟨b, o, p, ea, hp, hak⟩ := h.actor (i := i) (by omega)
      have hz := hs.z _ (List.getElem_mem (show i < acts.length by omega))
      have z1 := hak.own.cuts.len
      have z2 := hak.own.dens.len
      have z3 := hak.told.cuts.len
      have z4 := hak.told.dens.len
      refine .mk b o i ea rfl (by show i < an; omega) ?_
      conv => cbv
      refine .mk p.avs rfl rfl (CellsAt.le (le_of_keep hkp) hp) ?_
      conv => cbv
      refine CallS.spec (Spec.frame (twinD_spec hak.own (by omega) (by omega)) (le_of_keep hkp)) rfl fun B1 M1 v1 hB1 hlt1 hk1 hn1 ⟨N1, q1, q2, q3, p1, ev1, h1, h1d⟩ => ⟨p1.av, rfl, ev1.symm, ?_⟩
      conv => cbv
      refine CallS.spec (Spec.frame (twinD_spec (hak.told.up q2.le) (by omega) (by omega)) q1) rfl fun B2 M2 v2 hB2 hlt2 hk2 hn2 ⟨N2, r1, r2, r3, p2, ev2, h2, _⟩ => ⟨p2.av, rfl, ev2.symm, ?_⟩
      conv => cbv
      refine .mk trivial fun b3 M3 hn3 hB3 hM3 => ?_
      conv => cbv
      have hM3' : M3 = M2.set b3 (.row 97 8 (AP.cells ⟨p1, p2, p.after, p.asked⟩)) := hM3
      have kp3 : ∀ b, M2 b ≠ none → M3 b = M2 b := by rw [hM3']; exact keep_set hn3
      have kpi : ∀ b, Mi b ≠ none → M3 b = Mi b := keep_trans hk1.keep (keep_trans hk2.keep kp3)
      have hown3 := hown.keep kpi
      have hoff : ∀ g, c.B0 ≤ g → Mi g ≠ none → N2 g = none := fun g hg hM => by
        cases hc : N2 g with
        | none => rfl
        | some f =>
          have g1 := hlt1 g hM
          rcases r3 g (by rw [hc]; simp) with e | e
          · rcases q3 g e with e' | e'
            · have := hK.lt g e'; omega
            · omega
          · have := hlt2 g (by rw [hk1.keep g hM]; exact hM)
            omega
      refine append_actor hown3 (CellsAt.new hM3') (Mem.le_trans r1 (le_of_keep kp3)) (q := ⟨p1, p2, p.after, p.asked⟩) ⟨h1.up r2.le, h2, hak.after, hak.asked, hak.ia, hak.ik⟩ (((h1d.mono (B' := c.B0) hB1).up q1).up (Mem.le_trans hk2.le (le_of_keep kp3))) (hown.off hK.lent hoff) (by omega) fun M4 a4 k4 h4 g4 => ?_
      conv => cbv
      refine .i64 ((i + 1 : Nat) : Int) (by show (i : Int) + 1 = _; omega) (by omega) (by omega) ?_
      conv => cbv
      rw [← take_snoc (show i < acts.length by omega)] at h4
      refine ih (i + 1, M4, a4, k4) ⟨by simp only; omega, h4, keep_row hown3 hK.lt hK.lent (keep_trans hkp kpi) g4⟩ (by simp only; omega) _ ?_
      refine ⟨by cbv <;> simp, by cbv <;> simp, by cbv, Mem.le_refl _⟩
    · replace l1 := of_decide_eq_false l1
      try simp only [nc] at l1
      try simp only [minF_t] at l1
      try simp only [minF_f] at l1
      try dsimp only at l1
      have : i = acts.length := by omega
      subst this
      rw [List.take_length] at hown
      refine AppS.congr (l' := [SA none 0 0, SA qa qn qk]) rfl ?_
      refine AppS.list (t := 23) (ti := ti23) (ei := ti64) rfl rfl rfl (by decide) rfl ElQ.up ElQ.one (OwnL.nil (c := c) (M := Mi)) (hq.up ElQ.up (le_of_keep hkp)) (by simp only [maxLen]; omega) (by show (0 + qn) * 64 ≤ _; omega) fun M2 a2 k2 h2 g2 => ?_
      conv => cbv
      have kp2 := keep_app hkp hK.lt hK.lent (OwnL.nil (c := c) (M := Mi) (R := ElQ) (e := 64) (sz := 8)) g2
      have kpi : ∀ b, Mi b ≠ none → M2 b = Mi b := fun b hb => g2.keep b hb (fun g hg => by cases hg)
      have hown2 := hown.keep kpi
      obtain ⟨e0, ps, Mc, w1, w2, w3, w4, _⟩ := hown2
      obtain ⟨e1, cs, u1, u2⟩ := h2
      obtain ⟨u3, u4⟩ := all2_q u2
      rw [List.nil_append] at e1 u3 u4
      rw [u3] at u1
      rcases w1.row with ⟨_, ez, _⟩ | ⟨g, ga, gB, gM, gn, gm⟩
      · omega
      have gB : c.B0 ≤ g := by
        rcases gB with gB | gB
        · exact gB
        · rw [hK.lent] at gB; cases gB
      subst ga
      rcases u1.row with ⟨ha2, en, ek⟩ | ⟨h, ha2, hB, hM, hn', hm⟩
      · subst ha2
        have e2 : qn = 0 := by omega
        refine hK.ground rfl (Keeps.of_keep kp2) ⟨g, k', none, k2, ?_, gB, (fun _ e => by cases e), ⟨ps, Mc, gM, w2, w3 g rfl, w4⟩, ⟨by omega, gm⟩, .inl ⟨rfl, List.eq_nil_of_length_eq_zero (by omega), ek⟩, u4⟩
        simp only [AV.val, AV.den, AV.denL, hqn, hadr, Option.map_none, Nat.zero_add]
      · subst ha2
        have hB : c.B0 ≤ h := by
          rcases hB with hB | hB
          · exact hB
          · rw [hK.lent] at hB; cases hB
        refine hK.ground rfl (Keeps.of_keep kp2) ⟨g, k', some h, k2, ?_, gB, (fun _ e => by cases e; exact hB), ⟨ps, Mc, gM, w2, w3 g rfl, w4⟩, ⟨by omega, gm⟩, .inr ⟨h, rfl, hM, by omega, hm⟩, u4⟩
        simp only [AV.val, AV.den, AV.denL, hqn, hadr, Option.map_some, Nat.zero_add]

end Go.SX

/- Layer 36: the reference's question. -/
namespace Go.SX
open Go.Proofs.Try Go.Proofs

set_option maxHeartbeats 2000000 in
set_option maxRecDepth 100000 in
theorem refAsk_spec {acts : List ActV} {log : List QV} {M : Mem} {aa qa : Option Addr} {an ak qn qk : Nat} (h : RActs M aa an ak acts) (hq : RQ M qa qn qk log) (ag kind : Int) (hag : I64 ag) (hkd : 0 ≤ kind ∧ kind < 256) (a b : R) (ha : a.Wf) (hb : b.Wf) :
    Spec 53 #[MV aa an ak qa qn qk, EV ag, .int .u8 kind, RV a, RV b] M fun _ M' v => AskRPost (askR ⟨acts, log⟩ ⟨ag, kind, a, b, R.zero⟩) M' v := by
  have hn := h.len
  have hqn := hq.len
  refine ok53.spec 10 [MA aa an ak qa qn qk, EA ag, .sym .u8 fun _ => kind, RA a, RA b] rfl (by kernel_rfl) fun c K hK => ?_
  conv => cbv
  refine CallS.spec (refMeet_spec h hq) rfl fun B1 M1 v1 hB1 hlt1 hk1 hn1 ev1 => ⟨EA (meetC acts log), rfl, ev1.symm, ?_⟩
  conv => cbv
  refine ⟨fun h1 => ?_, fun h1 => ?_⟩
  · replace h1 := of_decide_eq_true h1
    try simp only [nc] at h1
    try simp only [minF_t] at h1
    try simp only [minF_f] at h1
    try dsimp only at h1
    refine ok53.go 100 (by kernel_rfl) ?_
    conv => cbv
    refine hK.ground rfl hk1 ?_
    rw [askR, if_pos h1]
    exact ⟨_, rfl, MtPost.zero _⟩
  · replace h1 := of_decide_eq_false h1
    try simp only [nc] at h1
    try simp only [minF_t] at h1
    try simp only [minF_f] at h1
    try dsimp only at h1
    have h1 : meetC acts log = 0 := by omega
    have h1' : ¬ meetC acts log ≠ 0 := by omega
    obtain ⟨d1, d2, d3, d4, d5⟩ := meetC_ok h1
    have hasked := asked_of h1
    obtain ⟨q, hqe⟩ : ∃ q : QV, q = ⟨ag, kind, a, b, R.zero⟩ := ⟨_, rfl⟩
    rw [← hqe] at hK
    have qa1 : q.ag = ag := by rw [hqe]
    have qk1 : q.kind = kind := by rw [hqe]
    have qA : q.a = a := by rw [hqe]
    have qB : q.b = b := by rw [hqe]
    have h1M := h.up ElA.up hk1.le
    have q1M := hq.up ElQ.up hk1.le
    have bad : ∀ {s : S} {r : AV} {e : Int} {M' : Mem}, s.M = M' → Keeps noL M M' → r.ground = true → r.val = .tuple #[MV none 0 0 none 0 0, RV R.zero, EV e] → stepE ⟨acts, log⟩ q = (R.zero, e) → e ≠ 0 → K s r := fun {s r e M'} e1 e0 e2 e3 e4 e5 => by
      have e6 : (stepE ⟨acts, log⟩ q).2 ≠ 0 := by rw [e4]; exact e5
      refine hK.ground e2 (by rw [e1]; exact e0) ?_
      rw [e1, askR, if_neg h1', if_pos e6, e4]
      exact ⟨_, e3, MtPost.zero _⟩
    refine OKS.cut (κ := Unit) (fun _ => hasC an ag = true ∧ (kind = 1 ∨ kind = 2)) (fun _ => []) (fun _ => []) (fun _ => M1) ?_ fun hj => ?_
    · intro _ ⟨hh, hkk⟩
      have hh' : ¬ hasC an ag = false := by rw [hh]; simp
      obtain ⟨i, hqi, hi⟩ := hasC_nat hh
      have hi' : i < acts.length := by omega
      obtain ⟨bb, o, p, ea, hp, hak⟩ := h1M.actor hi'
      have hga : getA acts ag = acts[i] := getA_eq hqi hi'
      have hbi := hasked _ (List.getElem_mem hi')
      have d5i := d5 i hi'
      obtain ⟨x, hx⟩ : ∃ x, acts[i] = x := ⟨_, rfl⟩
      rw [hx] at hak hbi hga d5i
      have a1 := hak.after
      have a2 := hak.asked
      obtain ⟨r, hr⟩ : ∃ r, ansK kind (actC x) a b = r := ⟨_, rfl⟩
      have hrw : r.1.Wf := hr ▸ wf_ansK _ _ _ _ ha hb
      have hans : ansM ⟨acts, log⟩ q = r := by
        show ansK q.kind (actC (getA acts q.ag)) q.a q.b = r
        rw [qa1, qk1, qA, qB, hga, hr]
      have hcc : ¬ hasC acts.length q.ag = false := by rw [qa1, ← hn]; exact hh'
      refine ok53.go 5 (by kernel_rfl) ?_
      conv => cbv
      refine .mk bb o i ea hqi (by show i < an; omega) ?_
      conv => cbv
      refine .mk p.avs rfl rfl hp ?_
      conv => cbv
      refine OKS.cut (κ := CP) (fun pc => Ck M1 pc (actC x)) (fun _ => []) (fun pc => [(15, .cells 40 pc.avs)]) (fun _ => M1) ?_ fun hj => ?_
      · intro pc hpc
        refine ok53.go 3 (by kernel_rfl) ?_
        conv => cbv
        obtain ⟨rv, hrv⟩ : ∃ rv, valueC (actC x) a b = rv := ⟨_, rfl⟩
        have hvs := refValue_spec hpc a b ha hb
        rw [hrv] at hvs
        refine CallS.pure hvs rfl (REA rv) rfl rfl ?_
        conv => cbv
        refine OKS.cut (κ := Unit) (fun _ => True) (fun _ => [(17, EA r.2)]) (fun _ => [(16, .cells 43 [EA r.1.n, EA r.1.d])]) (fun _ => M1) ?_ fun hj => ?_
        · intro _ _
          refine ok53.go 100 (by kernel_rfl) ?_
          conv => cbv
          refine ⟨fun t1 => ?_, fun t1 => ?_⟩
          · replace t1 := of_decide_eq_true t1
            try simp only [nc] at t1
            try simp only [minF_t] at t1
            try simp only [minF_f] at t1
            try dsimp only at t1
            exact bad rfl hk1 rfl rfl (by rw [stepE, if_neg hcc, hans, if_pos t1]) t1
          · replace t1 := of_decide_eq_false t1
            try simp only [nc] at t1
            try simp only [minF_t] at t1
            try simp only [minF_f] at t1
            try dsimp only at t1
            refine ⟨fun t2 => ?_, fun t2 => ?_⟩
            · replace t2 := of_decide_eq_true t2
              try simp only [nc] at t2
              try simp only [minF_t] at t2
              try simp only [minF_f] at t2
              try dsimp only at t2
              exact bad rfl hk1 rfl rfl (by rw [stepE, if_neg hcc, hans, if_neg t1, if_pos (by show 2000 ≤ log.length; omega)]) (by decide)
            · replace t2 := of_decide_eq_false t2
              try simp only [nc] at t2
              try simp only [minF_t] at t2
              try simp only [minF_f] at t2
              try dsimp only at t2
              have hE : stepE ⟨acts, log⟩ q = (r.1, 0) := by rw [stepE, if_neg hcc, hans, if_neg t1, if_neg (by show ¬ 2000 ≤ log.length; omega)]
              refine CallS.spec (twin36s_spec h1M q1M (small_of h1) (by omega)) rfl fun B2 M2 v2 hB2 hlt2 hk2 hn2 ⟨g, gk, ho, qk', ev2, hmt⟩ => ⟨MA (some ⟨g, 0, none⟩) acts.length gk (hadr ho) log.length qk', rfl, ev2.symm, ?_⟩
              conv => cbv
              have kp2 := keep_trans hk1.keep hk2.keep
              refine .mk trivial fun b3 M3 hn3 hB3 hM3 => ?_
              conv => cbv
              obtain ⟨q', hq'⟩ : ∃ q' : QV, q' = ⟨ag, kind, a, b, r.1⟩ := ⟨_, rfl⟩
              have hqw' : q'.Wf := by rw [hq']; exact ⟨hag, hkd, ha, hb, hrw⟩
              have hM3' : M3 = M2.set b3 (.row 64 8 q'.cells) := by rw [hq']; exact hM3
              have kp3 : ∀ b, M2 b ≠ none → M3 b = M2 b := by rw [hM3']; exact keep_set hn3
              have hlent := hK.lent
              have hB2' : c.B0 ≤ B2 := hB2
              obtain ⟨ps, Mc, r1, r2, r3, r5⟩ := hmt.row
              obtain ⟨p', hpi, hak'⟩ := r5.get (List.getElem?_eq_getElem hi')
              rw [hx] at hak'
              have hown : Own c M3 64 8 (hadr ho) log.length qk' (log.map QV.cells).flatten := by
                refine ⟨?_, ?_⟩
                · have : ∀ l : List QV, ((l.map QV.cells).flatten).length = l.length * 8 := fun l => by
                    induction l with
                    | nil => rfl
                    | cons y l ih => simp [ih]; omega
                  exact this _
                · rcases hmt.logAt with ⟨e1, e2, e3⟩ | ⟨hb, e1, e2, e3, e4⟩
                  · exact .inl ⟨by rw [e1]; rfl, by rw [e2]; rfl, e3⟩
                  · exact .inr ⟨hb, by rw [e1]; rfl, .inl (Nat.le_trans hB2' (hmt.hB hb e1)), by rw [kp3 hb (by rw [e2]; simp)]; exact e2, e3, e4⟩
              refine AppS.own (t := 23) (e := 64) (ti := ti23) (ei := ti64) rfl rfl rfl (by decide) rfl (x := SA (hadr ho) log.length qk') (y := SA _ 1 1) rfl hown rfl (CellsAt.new hM3') rfl (ElQ.one M2 q'.cells q' ⟨rfl, hqw'⟩) (by simp only [maxLen]; omega) (by show (log.length + 1) * 64 ≤ _; omega) fun M4 a4 k4 h4 g4 => ?_
              conv => cbv
              have kp4 : ∀ b, M2 b ≠ none → (∀ hb, ho = some hb → b ≠ hb) → M4 b = M2 b := fun b hb hne => by
                rw [g4.keep b (by rw [kp3 b hb]; exact hb) ?_, kp3 b hb]
                intro hb' e
                have e : hadr ho = some ⟨hb', 0, none⟩ := e
                cases ho with
                | none => cases e
                | some h0 => cases e; exact hne _ rfl
              have hgh : ∀ hb, ho = some hb → g ≠ hb := fun hb e e' => by
                rcases hmt.logAt with ⟨e1, _⟩ | ⟨hb', e1, e2, _⟩
                · rw [e1] at e; cases e
                · rw [e1] at e; cases e
                  rw [e', e2] at r1; cases r1
              have w4 : M4 g = some (.row 97 (gk * 8) (List.map AP.cells ps).flatten) := by
                rw [kp4 g (by rw [r1]; simp) hgh]; exact r1
              have hp4 : CellsAt M4 g (0 + i * 8) p'.cells := CellsAt.chunk (sz := 8) (cs := ps.map AP.cells) (fun x hx => by
                obtain ⟨y, _, rfl⟩ := List.mem_map.1 hx
                rfl) (CellsAt.row w4) (by simp [hpi])
              have a2' := hak'.asked
              have hpl := r5.length
              have hi97 : i < acts.length := hi'
              refine .mk g 0 i rfl hqi (by show i < acts.length; omega) ?_
              conv => cbv
              refine .mk (EA p'.asked) rfl (AP.at_asked hp4) ?_
              conv => cbv
              refine .i64 (p'.asked + 1) rfl (by omega) (by omega) ?_
              conv => cbv
              refine .mk g 0 i rfl hqi (by show i < acts.length; omega) ?_
              conv => cbv
              refine .rowM w4 (.inl (Nat.le_trans hB2' hmt.gB)) (by show 0 + i * 8 + 7 + 1 ≤ _; rw [flatA_len]; omega) rfl (cs' := ((ps.set i ⟨p'.own, p'.told, p'.after, p'.asked + 1⟩).map AP.cells).flatten) (by show spliceV _ (0 + i * 8 + 7) [EV (p'.asked + 1)] = _; rw [Nat.zero_add]; exact splice_asked ps i p' _ hpi) fun M6 hM6 => ?_
              conv => cbv
              have hkeep : Keeps noL M M6 := Keeps.of_keep fun b hb => by
                have hbl := hK.lt b hb
                have hne : b ≠ g := by have := hmt.gB; omega
                rw [hM6]
                simp only [Mem.set, if_neg hne]
                rw [kp4 b (by rw [kp2 b hb]; exact hb) (fun h0 e e' => by have := hmt.hB h0 e; omega), kp2 b hb]
              rcases h4.row with ⟨_, ez, _⟩ | ⟨h', e1, e2, e3, e4, e6⟩
              · exact absurd ez (Nat.succ_ne_zero _)
              · have ng : h' ≠ g := fun e => by rw [e, w4] at e3; cases e3
                have e3 : M6 h' = some (.row 64 (k4 * 8) ((log.map QV.cells).flatten ++ q'.cells)) := by
                  rw [hM6]; simp only [Mem.set, if_neg ng]; exact e3
                have hsM : stepM ⟨acts, log⟩ q = ⟨acts.set i x.more, log ++ [q']⟩ := by
                  rw [stepM, hE, if_pos rfl, hqe]
                  simp only
                  rw [hga, hqi, Int.toNat_natCast, hq', hqi]
                have hfin : Mc.le M6 := by
                  rw [hM6]
                  exact le_set_off (Mem.le_trans (Mem.le_trans r2 (le_of_keep kp3)) g4.le) r3
                subst e1
                refine hK.ground rfl hkeep ?_
                rw [askR, if_neg h1', hE, if_neg (by simp), hsM]
                have er : RActs M6 (some ⟨g, 0, none⟩) acts.length gk (acts.set i x.more) := by
                  refine ⟨by simp, by simp only [List.length_set]; exact hmt.cap.1, (fun h => by cases h), (ps.set i ⟨p'.own, p'.told, p'.after, p'.asked + 1⟩).map AP.cells, ?_, fun _ => ⟨g, 0, rfl, CellsAt.row (by rw [hM6, set_self])⟩⟩
                  have r6 : All2 (fun p x => Ak Mc p x) (ps.set i ⟨p'.own, p'.told, p'.after, p'.asked + 1⟩) (acts.set i x.more) := r5.set i ⟨hak'.own, hak'.told, hak'.after, by show p'.asked + 1 = x.asked + 1; omega, hak'.ia, by show I64 (x.asked + 1); simp only [I64]; omega⟩
                  exact RowAc.all (r6.mono fun _ _ hc => hc.up hfin)
                have el : RQ M6 (some ⟨h', 0, none⟩) (log.length + 1) k4 (log ++ [q']) := by
                  refine ⟨by simp, by simpa using e4, (fun h => by cases h), (log ++ [q']).map QV.cells, q_all2 ?_, fun _ => ⟨h', 0, rfl, CellsAt.row (show M6 h' = some (.row 64 (k4 * 8) _) by rw [e3, List.map_append, List.flatten_append]; rfl)⟩⟩
                  intro y hy
                  rcases List.mem_append.1 hy with hy | hy
                  · exact hmt.wf y hy
                  · rw [List.mem_singleton] at hy; subst hy; exact hqw'
                exact ⟨_, rfl, some ⟨g, 0, none⟩, gk, some ⟨h', 0, none⟩, k4, by simp only [List.length_set, List.length_append, List.length_cons, List.length_nil]; rfl, by simpa using er, by simpa using el⟩
        · refine ok53.go 100 (by kernel_rfl) ?_
          conv => cbv
          refine ⟨fun k1 => ?_, fun k1 => ?_⟩
          · replace k1 := of_decide_eq_true k1
            try simp only [nc] at k1
            try simp only [minF_t] at k1
            try simp only [minF_f] at k1
            try dsimp only at k1
            refine CallS.pure (refMark_spec hpc a b ha hb) rfl (REA r) rfl (by rw [← hr, ansK, if_neg (by omega), if_pos k1]; rfl) ?_
            conv => cbv
            refine hj () trivial _ ?_
            refine ⟨by cbv <;> simp, by cbv <;> simp, by cbv, Mem.le_refl _⟩
          · replace k1 := of_decide_eq_false k1
            try simp only [nc] at k1
            try simp only [minF_t] at k1
            try simp only [minF_f] at k1
            try dsimp only at k1
            have hr2 : rv = r := by rw [← hr, ansK, if_pos (by omega), hrv]
            subst hr2
            refine hj () trivial _ ?_
            refine ⟨by cbv <;> simp, by cbv <;> simp, by cbv, Mem.le_refl _⟩
      · refine ok53.go 100 (by kernel_rfl) ?_
        conv => cbv
        refine ⟨fun w1 => ?_, fun w1 => ?_⟩
        · replace w1 := of_decide_eq_true w1
          try simp only [nc] at w1
          try simp only [minF_t] at w1
          try simp only [minF_f] at w1
          try dsimp only at w1
          refine ⟨fun w2 => ?_, fun w2 => ?_⟩
          · replace w2 := of_decide_eq_true w2
            try simp only [nc] at w2
            try simp only [minF_t] at w2
            try simp only [minF_f] at w2
            try dsimp only at w2
            refine hj p.told (by rw [actC, if_pos ⟨by omega, by omega⟩]; exact hak.told) _ ?_
            refine ⟨by cbv <;> simp, by cbv <;> simp, by cbv, Mem.le_refl _⟩
          · replace w2 := of_decide_eq_false w2
            try simp only [nc] at w2
            try simp only [minF_t] at w2
            try simp only [minF_f] at w2
            try dsimp only at w2
            refine hj p.own (by rw [actC, if_neg (by omega)]; exact hak.own) _ ?_
            refine ⟨by cbv <;> simp, by cbv <;> simp, by cbv, Mem.le_refl _⟩
        · replace w1 := of_decide_eq_false w1
          try simp only [nc] at w1
          try simp only [minF_t] at w1
          try simp only [minF_f] at w1
          try dsimp only at w1
          refine hj p.own (by rw [actC, if_neg (by omega)]; exact hak.own) _ ?_
          refine ⟨by cbv <;> simp, by cbv <;> simp, by cbv, Mem.le_refl _⟩
    · refine ok53.go 100 (by kernel_rfl) ?_
      conv => cbv
      refine ⟨fun n1 => ?_, fun n1 => ?_⟩
      · replace n1 := of_decide_eq_true n1
        try simp only [nc] at n1
        try simp only [minF_t] at n1
        try simp only [minF_f] at n1
        try dsimp only at n1
        refine bad rfl hk1 rfl rfl ?_ (by decide)
        rw [stepE, if_pos]
        simp [hasC, qa1]; omega
      · replace n1 := of_decide_eq_false n1
        try simp only [nc] at n1
        try simp only [minF_t] at n1
        try simp only [minF_f] at n1
        try dsimp only at n1
        refine ⟨fun n2 => ?_, fun n2 => ?_⟩
        · replace n2 := of_decide_eq_true n2
          try simp only [nc] at n2
          try simp only [minF_t] at n2
          try simp only [minF_f] at n2
          try dsimp only at n2
          refine bad rfl hk1 rfl rfl ?_ (by decide)
          rw [stepE, if_pos]
          simp [hasC, qa1]; omega
        · replace n2 := of_decide_eq_false n2
          try simp only [nc] at n2
          try simp only [minF_t] at n2
          try simp only [minF_f] at n2
          try dsimp only at n2
          have hh : hasC an ag = true := by simp [hasC]; omega
          refine ⟨fun n3 => ?_, fun n3 => ?_⟩
          · replace n3 := of_decide_eq_true n3
            try simp only [nc] at n3
            try simp only [minF_t] at n3
            try simp only [minF_f] at n3
            try dsimp only at n3
            refine ⟨fun n4 => ?_, fun n4 => ?_⟩
            · replace n4 := of_decide_eq_true n4
              try simp only [nc] at n4
              try simp only [minF_t] at n4
              try simp only [minF_f] at n4
              try dsimp only at n4
              have hcc : ¬ hasC acts.length q.ag = false := by rw [qa1, ← hn, hh]; simp
              refine bad rfl hk1 rfl rfl ?_ (by decide)
              rw [stepE, if_neg hcc, if_pos]
              · show (R.zero, (ansK q.kind (actC (getA acts q.ag)) q.a q.b).2) = _
                rw [qk1, ansK, if_neg (by omega), if_neg (by omega)]
              · show (ansK q.kind (actC (getA acts q.ag)) q.a q.b).2 ≠ 0
                rw [qk1, ansK, if_neg (by omega), if_neg (by omega)]
                decide
            · replace n4 := of_decide_eq_false n4
              try simp only [nc] at n4
              try simp only [minF_t] at n4
              try simp only [minF_f] at n4
              try dsimp only at n4
              refine hj () ⟨hh, by omega⟩ _ ?_
              refine ⟨by cbv <;> simp, by cbv <;> simp, by cbv, Mem.le_refl _⟩
          · replace n3 := of_decide_eq_false n3
            try simp only [nc] at n3
            try simp only [minF_t] at n3
            try simp only [minF_f] at n3
            try dsimp only at n3
            refine hj () ⟨hh, by omega⟩ _ ?_
            refine ⟨by cbv <;> simp, by cbv <;> simp, by cbv, Mem.le_refl _⟩

end Go.SX
