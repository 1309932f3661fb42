/- Layer 36: a meeting that goes on; how it is begun. -/
import Derived.Test.YtojdihbanakhgaaAhE
namespace Go.SX
open Go.Proofs.Try Go.Proofs

theorem AppS.congr {c : Ct} {up : Bool} {ts : List Nat} {l l' : List AV} {M : Mem} {p : Mem → AV → Prop} (e : AV.vals l = AV.vals l') (h : AppS c up ts l' M p) : AppS c up ts l M p := by
  obtain ⟨h⟩ := h
  refine ⟨?_⟩
  rw [e]
  exact h

theorem KOk.ptr {c : Ct} {M : Mem} {L : Nat → Bool} {Post : Nat → Mem → Value → Prop} {K : S → AV → Prop} {s : S} (h : KOk c M L Post K) {id T : Nat} {l : List AV} (hob : s.ob id = .cells T l) (hl : AV.groundL l = true) (hk : Keeps L M s.M)
    (hp : ∀ b, s.M b = none → c.B0 ≤ b → Post c.B0 (s.M.set b (.obj (.cells (AV.vals l) T (0, 0)))) (.pointer (some ⟨b, 0, none⟩))) : K s (.ptr id 0) :=
  h.fin s _ fun ρ a w hw hg => by
    obtain ⟨cv, k1, k2, k3, k4⟩ := hg.ob id T l hob
    simp only [AV.groundL, Bool.and_eq_true] at hl
    have hcv : cv = AV.denL (fun _ => 0) l := (DenL.sure hl.1 k2).trans (AV.denL_congr (p := fun _ => false) (fun i hi => by cases hi) l hl.2)
    refine ⟨s.M.set (ρ id) (.obj (.cells (AV.vals l) T (0, 0))), Mem.on_set hg.mem ?_, hk.set (.inl ?_), fun b hb => ?_, hp (ρ id) k3 k4⟩
    · show _ = _
      rw [k1, hcv]; rfl
    · cases hc : M (ρ id) with
      | none => rfl
      | some f => have := h.lt (ρ id) (by rw [hc]; simp); omega
    · unfold Mem.set at hb
      by_cases e : b = ρ id
      · exact .inr (by omega)
      · rw [if_neg e] at hb
        have := hg.new b hb
        rwa [h.M0] at this

theorem all2_q {M : Mem} : ∀ {cs : List (List Value)} {l : List QV}, All2 (fun c x => c.length = 8 ∧ ElQ M c x) cs l → cs = l.map QV.cells ∧ ∀ q ∈ l, q.Wf
  | [], [], _ => ⟨rfl, fun _ h => by cases h⟩
  | c :: cs, x :: l, h => by
    obtain ⟨h1, h2⟩ := all2_q h.2
    obtain ⟨_, h3, h4⟩ := h.1
    refine ⟨by rw [h1, h3]; rfl, fun q hq => ?_⟩
    rcases List.mem_cons.1 hq with rfl | hq
    · exact h4
    · exact h2 q hq
  | [], _ :: _, h => h.elim
  | _ :: _, [], h => h.elim

theorem q_all2 {M : Mem} : ∀ {l : List QV}, (∀ q ∈ l, q.Wf) → All2 (fun c x => c.length = 8 ∧ ElQ M c x) (l.map QV.cells) l
  | [], _ => trivial
  | x :: l, h => ⟨⟨rfl, rfl, h x (by simp)⟩, q_all2 fun q hq => h q (by simp [hq])⟩

abbrev hadr (ho : Option Nat) : Option Addr := ho.map fun h => ⟨h, 0, none⟩

/-- A meeting that goes on: its variable mb, its actors' row g, its log's row. -/
structure MtgAt (B : Nat) (M : Mem) (mb g ak : Nat) (ho : Option Nat) (qk : Nat) (acts : List ActV) (log : List QV) : Prop where
  obj : M mb = some (.obj (.cells #[SV (some ⟨g, 0, none⟩) acts.length ak, SV (hadr ho) log.length qk] 113 (0, 0)))
  row : ∃ ps Mc, M g = some (.row 97 (ak * 8) (List.map AP.cells ps).flatten) ∧ Mem.le Mc M ∧ Mc mb = none ∧ Mc g = none ∧ All2 (fun p x => Ak Mc p x) ps acts ∧ FreshP B M ps
  cap : acts.length ≤ ak ∧ ak ≤ maxLen
  logAt : (ho = none ∧ log = [] ∧ qk = 0) ∨ ∃ h, ho = some h ∧ M h = some (.row 64 (qk * 8) (log.map QV.cells).flatten) ∧ log.length ≤ qk ∧ qk ≤ maxLen
  wf : ∀ q ∈ log, q.Wf

section
variable {B : Nat} {M M' : Mem} {mb g ak : Nat} {ho : Option Nat} {qk : Nat} {acts : List ActV} {log : List QV}

theorem MtgAt.keep (h : MtgAt B M mb g ak ho qk acts log) (hk : ∀ b, M b ≠ none → M' b = M b) : MtgAt B M' mb g ak ho qk acts log :=
  let ⟨ps, Mc, r1, r2, r3, r4, r5, r6⟩ := h.row
  ⟨by rw [hk mb (by rw [h.obj]; simp)]; exact h.obj, ⟨ps, Mc, by rw [hk g (by rw [r1]; simp)]; exact r1, Mem.le_trans r2 (le_of_keep hk), r3, r4, r5, r6.up (le_of_keep hk)⟩, h.cap,
    h.logAt.imp_right fun ⟨b, e1, e2, e3⟩ => ⟨b, e1, by rw [hk b (by rw [e2]; simp)]; exact e2, e3⟩, h.wf⟩

theorem MtgAt.actsR (h : MtgAt B M mb g ak ho qk acts log) : RActs M (some ⟨g, 0, none⟩) acts.length ak acts :=
  let ⟨ps, Mc, r1, r2, _, _, r5, _⟩ := h.row
  ⟨rfl, h.cap.1, (fun h => by cases h), ps.map AP.cells, RowAc.all (r5.mono fun _ _ hc => hc.up r2), fun _ => ⟨g, 0, rfl, CellsAt.row r1⟩⟩

theorem MtgAt.logR (h : MtgAt B M mb g ak ho qk acts log) : RQ M (hadr ho) log.length qk log := by
  rcases h.logAt with ⟨rfl, e, rfl⟩ | ⟨b, rfl, e2, e3, e4⟩
  · rw [e]; exact RdL.nil' ..
  · exact ⟨rfl, e3, (fun h => by cases h), log.map QV.cells, q_all2 h.wf, fun _ => ⟨b, 0, rfl, CellsAt.row e2⟩⟩
end

def BeginPost (acts : List ActV) (log : List QV) (B : Nat) (M' : Mem) (v : Value) : Prop :=
  ∃ mb g ak ho qk, v = .pointer (some ⟨mb, 0, none⟩) ∧ B ≤ mb ∧ B ≤ g ∧ (∀ h, ho = some h → B ≤ h) ∧ MtgAt B M' mb g ak ho qk acts log

structure Small (acts : List ActV) : Prop where
  n1 : 1 ≤ acts.length
  n2 : acts.length ≤ 10
  z : ∀ x ∈ acts, x.own.cuts.length ≤ 1000 ∧ x.own.dens.length ≤ 1000 ∧ x.told.cuts.length ≤ 1000 ∧ x.told.dens.length ≤ 1000

set_option maxHeartbeats 1000000 in
set_option maxRecDepth 100000 in
theorem begin_spec {acts : List ActV} {log : List QV} {M : Mem} {aa qa : Option Addr} {an ak qn qk : Nat} (h : RActs M aa an ak acts) (hq : RQ M qa qn qk log) (hs : Small acts) (hqs : qn ≤ 1000000) :
    Spec 69 #[MV aa an ak qa qn qk] M (BeginPost acts log) := by
  have hn := h.len
  have hqn := hq.len
  have s1 := hs.n1
  have s2 := hs.n2
  refine ok69.spec 200 [MA aa an ak qa qn qk] rfl (by kernel_rfl) fun c K hK => ?_
  conv => cbv
  refine OKS.loopH (fun (p : Nat × Mem × Option Addr × Nat) => p.1 ≤ an ∧ RowAc c p.2.1 p.2.2.1 p.1 p.2.2.2 (acts.take p.1) ∧ ∀ b, M b ≠ none → p.2.1 b = M b)
    (fun p => [(11, EA p.1)]) (fun p => [(5, .none), (7, .cells 113 [SA p.2.2.1 p.1 p.2.2.2, .nils])]) (fun p => p.2.1) (fun p => an - p.1) (0, M, none, 0) ⟨by simp, RowAc.nil, fun _ _ => rfl⟩ ?_ ?_
  · refine ⟨by cbv <;> simp, by cbv <;> simp, by cbv, Mem.le_refl _⟩
  · intro ⟨i, Mi, a', k'⟩ ⟨hi1, hown, hkp⟩ ih
    simp only at hi1 hown hkp
    refine ok69.go 100 (by kernel_rfl) ?_
    conv => cbv
    refine ⟨fun l1 => ?_, fun l1 => ?_⟩
    · replace l1 := of_decide_eq_true l1
      try simp only [nc] at l1
      try simp only [minF_t] at l1
      try simp only [minF_f] at l1
      try dsimp only at l1
      obtain ⟨b, o, p, ea, hp, hak⟩ := h.actor (i := i) (by omega)
      have hz := hs.z _ (List.getElem_mem (show i < acts.length by omega))
      have z1 := hak.own.cuts.len
      have z2 := hak.own.dens.len
      have z3 := hak.told.cuts.len
      have z4 := hak.told.dens.len
      refine .mk b o i ea rfl (by show i < an; omega) ?_
      conv => cbv
      refine .mk p.avs rfl rfl (CellsAt.le (le_of_keep hkp) hp) ?_
      conv => cbv
      refine CallS.spec (Spec.frame (agTwin_spec hak.own (by omega) (by omega)) (le_of_keep hkp)) rfl fun B1 M1 v1 hB1 hlt1 hk1 hn1 ⟨N1, q1, q2, q3, p1, ev1, h1, h1d⟩ => ⟨p1.av, rfl, ev1.symm, ?_⟩
      conv => cbv
      refine CallS.spec (Spec.frame (agTwin_spec (hak.told.up q2.le) (by omega) (by omega)) q1) rfl fun B2 M2 v2 hB2 hlt2 hk2 hn2 ⟨N2, r1, r2, r3, p2, ev2, h2, _⟩ => ⟨p2.av, rfl, ev2.symm, ?_⟩
      conv => cbv
      refine .mk trivial fun b3 M3 hn3 hB3 hM3 => ?_
      conv => cbv
      have hM3' : M3 = M2.set b3 (.row 97 8 (AP.cells ⟨p1, p2, p.after, p.asked⟩)) := hM3
      have kp3 : ∀ b, M2 b ≠ none → M3 b = M2 b := by rw [hM3']; exact keep_set hn3
      have kpi : ∀ b, Mi b ≠ none → M3 b = Mi b := keep_trans hk1.keep (keep_trans hk2.keep kp3)
      have hown3 := hown.keep kpi
      have hoff : ∀ g, c.B0 ≤ g → Mi g ≠ none → N2 g = none := fun g hg hM => by
        cases hc : N2 g with
        | none => rfl
        | some f =>
          have g1 := hlt1 g hM
          rcases r3 g (by rw [hc]; simp) with e | e
          · rcases q3 g e with e' | e'
            · have := hK.lt g e'; omega
            · omega
          · have := hlt2 g (by rw [hk1.keep g hM]; exact hM)
            omega
      refine append_actor hown3 (CellsAt.new hM3') (Mem.le_trans r1 (le_of_keep kp3)) (q := ⟨p1, p2, p.after, p.asked⟩) ⟨h1.up r2.le, h2, hak.after, hak.asked, hak.ia, hak.ik⟩ (((h1d.mono (B' := c.B0) hB1).up q1).up (Mem.le_trans hk2.le (le_of_keep kp3))) (hown.off hK.lent hoff) (by omega) fun M4 a4 k4 h4 g4 => ?_
      conv => cbv
      refine .i64 ((i + 1 : Nat) : Int) (by show (i : Int) + 1 = _; omega) (by omega) (by omega) ?_
      conv => cbv
      rw [← take_snoc (show i < acts.length by omega)] at h4
      refine ih (i + 1, M4, a4, k4) ⟨by simp only; omega, h4, keep_row hown3 hK.lt hK.lent (keep_trans hkp kpi) g4⟩ (by simp only; omega) _ ?_
      refine ⟨by cbv <;> simp, by cbv <;> simp, by cbv, Mem.le_refl _⟩
    · replace l1 := of_decide_eq_false l1
      try simp only [nc] at l1
      try simp only [minF_t] at l1
      try simp only [minF_f] at l1
      try dsimp only at l1
      have : i = acts.length := by omega
      subst this
      rw [List.take_length] at hown
      refine AppS.congr (l' := [SA none 0 0, SA qa qn qk]) rfl ?_
      refine AppS.list (t := 23) (ti := ti23) (ei := ti64) rfl rfl rfl (by decide) rfl ElQ.up ElQ.one (OwnL.nil (c := c) (M := Mi)) (hq.up ElQ.up (le_of_keep hkp)) (by simp only [maxLen]; omega) (by show (0 + qn) * 64 ≤ _; omega) fun M2 a2 k2 h2 g2 => ?_
      conv => cbv
      have kp2 := keep_app hkp hK.lt hK.lent (OwnL.nil (c := c) (M := Mi) (R := ElQ) (e := 64) (sz := 8)) g2
      have kpi : ∀ b, Mi b ≠ none → M2 b = Mi b := fun b hb => g2.keep b hb (fun g hg => by cases hg)
      have hown2 := hown.keep kpi
      refine hK.ptr (id := 7) rfl rfl (Keeps.of_keep kp2) fun mb nb Bb => ?_
      have nb : M2 mb = none := nb
      obtain ⟨e0, ps, Mc, w1, w2, w3, w4, w5⟩ := hown2
      obtain ⟨e1, cs, u1, u2⟩ := h2
      obtain ⟨u3, u4⟩ := all2_q u2
      rw [List.nil_append] at e1 u3 u4
      rw [u3] at u1
      have kps : ∀ b, M2 b ≠ none → ∀ f, (M2.set mb f) b = M2 b := fun b hb f => keep_set nb b hb
      rcases w1.row with ⟨_, ez, _⟩ | ⟨g, ga, gB, gM, gn, gm⟩
      · omega
      have gB : c.B0 ≤ g := by
        rcases gB with gB | gB
        · exact gB
        · rw [hK.lent] at gB; cases gB
      rcases u1.row with ⟨ha2, en, ek⟩ | ⟨h, ha2, hB, hM, hn', hm⟩
      · refine ⟨mb, g, k', none, 0, rfl, Bb, gB, (fun _ e => by cases e), ⟨?_, ⟨ps, Mc, ?_, ?_, none_le w2 nb, w3 g ga, w4, w5.up (le_of_keep fun b hb => kps b hb _)⟩, ⟨by omega, gm⟩, .inl ⟨rfl, List.eq_nil_of_length_eq_zero (by omega), rfl⟩, u4⟩⟩
        · have e2 : log.length = 0 := by omega
          show (M2.set mb _) mb = _
          rw [set_self]
          simp only [AV.vals, AV.denL, AV.den, ga, ha2, ek, e2, hadr, Option.map_none]
          rw [show (0 + qn) = 0 by omega]
        · show (M2.set mb _) g = _
          rw [kps g (by rw [gM]; simp)]; exact gM
        · exact Mem.le_trans w2 (le_of_keep fun b hb => kps b hb _)
      · have hB : c.B0 ≤ h := by
          rcases hB with hB | hB
          · exact hB
          · rw [hK.lent] at hB; cases hB
        refine ⟨mb, g, k', some h, k2, rfl, Bb, gB, (fun _ e => by cases e; exact hB), ⟨?_, ⟨ps, Mc, ?_, ?_, none_le w2 nb, w3 g ga, w4, w5.up (le_of_keep fun b hb => kps b hb _)⟩, ⟨by omega, gm⟩, .inr ⟨h, rfl, ?_, by omega, hm⟩, u4⟩⟩
        · show (M2.set mb _) mb = _
          rw [set_self]
          simp only [AV.vals, AV.denL, AV.den, ga, ha2, hadr, Option.map_some, e1]
        · show (M2.set mb _) g = _
          rw [kps g (by rw [gM]; simp)]; exact gM
        · exact Mem.le_trans w2 (le_of_keep fun b hb => kps b hb _)
        · show (M2.set mb _) h = _
          rw [kps h (by rw [hM]; simp)]; exact hM

def TwinPost (acts : List ActV) (log : List QV) (M' : Mem) (v : Value) : Prop :=
  ∃ aa ak qa qk, v = MV aa acts.length ak qa log.length qk ∧ RActs M' aa acts.length ak acts ∧ RQ M' qa log.length qk log

set_option maxHeartbeats 1000000 in
set_option maxRecDepth 100000 in
theorem twin36_spec {acts : List ActV} {log : List QV} {M : Mem} {aa qa : Option Addr} {an ak qn qk : Nat} (h : RActs M aa an ak acts) (hq : RQ M qa qn qk log) (hs2 : an ≤ 10) (hz : ∀ x ∈ acts, x.own.cuts.length ≤ 1000 ∧ x.own.dens.length ≤ 1000 ∧ x.told.cuts.length ≤ 1000 ∧ x.told.dens.length ≤ 1000) (hqs : qn ≤ 1000000) :
    Spec 49 #[MV aa an ak qa qn qk] M fun _ M' v => TwinPost acts log M' v := by
  have hn := h.len
  have hqn := hq.len
  refine ok49.spec 200 [MA aa an ak qa qn qk] rfl (by kernel_rfl) fun c K hK => ?_
  conv => cbv
  refine OKS.loopH (fun (p : Nat × Mem × Option Addr × Nat) => p.1 ≤ an ∧ OwnL ElA c p.2.1 97 8 p.2.2.1 p.1 p.2.2.2 (acts.take p.1) ∧ ∀ b, M b ≠ none → p.2.1 b = M b)
    (fun p => [(4, EA p.1)]) (fun p => [(5, .none), (3, .cells 25 [SA p.2.2.1 p.1 p.2.2.2, .nils])]) (fun p => p.2.1) (fun p => an - p.1) (0, M, none, 0) ⟨by simp, OwnL.nil, fun _ _ => rfl⟩ ?_ ?_
  · refine ⟨by cbv <;> simp, by cbv <;> simp, by cbv, Mem.le_refl _⟩
  · intro ⟨i, Mi, a', k'⟩ ⟨hi1, hown, hkp⟩ ih
    simp only at hi1 hown hkp
    have hM := h.up ElA.up (le_of_keep hkp)
    refine ok49.go 100 (by kernel_rfl) ?_
    conv => cbv
    refine ⟨fun l1 => ?_, fun l1 => ?_⟩
    · replace l1 := of_decide_eq_true l1
      try simp only [nc] at l1
      try simp only [minF_t] at l1
      try simp only [minF_f] at l1
      try dsimp only at l1
      obtain ⟨b, o, p, ea, hp, hak⟩ := hM.actor (i := i) (by omega)
      have hz := hz _ (List.getElem_mem (show i < acts.length by omega))
      have z1 := hak.own.cuts.len
      have z2 := hak.own.dens.len
      have z3 := hak.told.cuts.len
      have z4 := hak.told.dens.len
      refine .mk b o i ea rfl (by show i < an; omega) ?_
      conv => cbv
      refine .mk p.avs rfl rfl hp ?_
      conv => cbv
      refine CallS.spec (twin_spec hak.own (by omega) (by omega)) rfl fun B1 M1 v1 hB1 hlt1 hk1 hn1 ⟨p1, ev1, h1⟩ => ⟨p1.av, rfl, ev1.symm, ?_⟩
      conv => cbv
      refine CallS.spec (twin_spec (hak.told.up hk1.le) (by omega) (by omega)) rfl fun B2 M2 v2 hB2 hlt2 hk2 hn2 ⟨p2, ev2, h2⟩ => ⟨p2.av, rfl, ev2.symm, ?_⟩
      conv => cbv
      refine .mk trivial fun b3 M3 hn3 hB3 hM3 => ?_
      conv => cbv
      have hM3' : M3 = M2.set b3 (.row 97 8 (AP.cells ⟨p1, p2, p.after, p.asked⟩)) := hM3
      have kp3 : ∀ b, M2 b ≠ none → M3 b = M2 b := by rw [hM3']; exact keep_set hn3
      have kpi : ∀ b, Mi b ≠ none → M3 b = Mi b := keep_trans hk1.keep (keep_trans hk2.keep kp3)
      have hown3 := hown.keep ElA.up kpi
      have hone : RActs M3 (some ⟨b3, 0, none⟩) 1 1 [acts[i]] := RdL.one (fun _ _ _ => trivial) (CellsAt.new hM3') rfl ⟨_, rfl, (h1.up hk2.le).up (le_of_keep kp3), h2.up (le_of_keep kp3), hak.after, hak.asked, hak.ia, hak.ik⟩ (by omega)
      refine AppS.list (t := 22) (ti := ti22) (ei := ti97) rfl rfl rfl (by decide) rfl ElA.up ElA.one hown3 hone (by simp only [maxLen]; omega) (by show (i + 1) * 128 ≤ _; omega) fun M4 a4 k4 h4 g4 => ?_
      conv => cbv
      refine .i64 ((i + 1 : Nat) : Int) (by show (i : Int) + 1 = _; omega) (by omega) (by omega) ?_
      conv => cbv
      rw [← take_snoc (show i < acts.length by omega)] at h4
      refine ih (i + 1, M4, a4, k4) ⟨by simp only; omega, h4, keep_app (keep_trans hkp kpi) hK.lt hK.lent hown3 g4⟩ (by simp only; omega) _ ?_
      refine ⟨by cbv <;> simp, by cbv <;> simp, by cbv, Mem.le_refl _⟩
    · replace l1 := of_decide_eq_false l1
      try simp only [nc] at l1
      try simp only [minF_t] at l1
      try simp only [minF_f] at l1
      try dsimp only at l1
      have : i = acts.length := by omega
      subst this
      rw [List.take_length] at hown
      refine AppS.congr (l' := [SA none 0 0, SA qa qn qk]) rfl ?_
      refine AppS.list (t := 23) (ti := ti23) (ei := ti64) rfl rfl rfl (by decide) rfl ElQ.up ElQ.one (OwnL.nil (c := c) (M := Mi)) (hq.up ElQ.up (le_of_keep hkp)) (by simp only [maxLen]; omega) (by show (0 + qn) * 64 ≤ _; omega) fun M2 a2 k2 h2 g2 => ?_
      conv => cbv
      have kp2 := keep_app hkp hK.lt hK.lent (OwnL.nil (c := c) (M := Mi) (R := ElQ) (e := 64) (sz := 8)) g2
      have hl2 : RQ M2 a2 (0 + qn) k2 ([] ++ log) := h2.rd
      rw [Nat.zero_add, List.nil_append, hqn] at hl2
      refine hK.ground rfl (Keeps.of_keep kp2) ⟨a', k', a2, k2, ?_, hown.rd.up ElA.up g2.le, hl2⟩
      simp only [AV.val, AV.den, AV.denL, Nat.zero_add, hqn]

end Go.SX
