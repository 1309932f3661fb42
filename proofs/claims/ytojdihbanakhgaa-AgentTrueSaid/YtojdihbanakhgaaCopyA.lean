/- Reference: great desks, agents, copies. -/
import Derived.Test.YtojdihbanakhgaaAgU
import Derived.Test.YtojdihbanakhgaaListA
namespace Go.SX
open Go.Proofs.Try Go.Proofs

def greatD (cs : List CakeV) (n : Nat) : Bool := greatL cs || (decide (40 < n) && decide (n < 1999)) || decide (2010 < n)

theorem greatDesk_spec {cs : List CakeV} {M : Mem} {ca qa : Option Addr} {cn ck qn qk : Nat} (h : RC M ca cn ck cs) (hb : cn ≤ 9223372036854775807) : Pure1 45 #[DV ca cn ck qa qn qk] M (.bool (greatD cs qn)) := by
  refine ok45.pure 300 [DA ca cn ck qa qn qk] rfl (by kernel_rfl) fun c K hK => ?_
  conv => cbv
  refine CallS.pure (greatCakes_spec h hb) rfl (.sb fun _ => greatL cs) rfl rfl ?_
  conv => cbv
  refine ⟨fun g1 => ?_, fun g1 => ?_⟩
  · replace g1 : greatL cs = true := g1
    refine hK.pure rfl (Mem.le_refl _) ?_
    have e : greatD cs qn = true := by rw [greatD, g1]; rfl
    rw [e]
    rfl
  · replace g1 : greatL cs = false := g1
    refine ⟨fun g2 => ?_, fun g2 => ?_⟩
    · replace g2 := of_decide_eq_true g2
      try simp only [nc] at g2
      try simp only [minF_t] at g2
      try simp only [minF_f] at g2
      try dsimp only at g2
      refine ⟨fun g3 => ?_, fun g3 => ?_⟩
      · replace g3 := of_decide_eq_true g3
        try simp only [nc] at g3
        try simp only [minF_t] at g3
        try simp only [minF_f] at g3
        try dsimp only at g3
        refine hK.pure rfl (Mem.le_refl _) ?_
        have e : greatD cs qn = true := by rw [greatD, g1, decide_eq_true (show 40 < qn by omega), decide_eq_true (show qn < 1999 by omega)]; rfl
        rw [e]
        rfl
      · replace g3 := of_decide_eq_false g3
        try simp only [nc] at g3
        try simp only [minF_t] at g3
        try simp only [minF_f] at g3
        try dsimp only at g3
        refine hK.pure rfl (Mem.le_refl _) ?_
        have e : greatD cs qn = decide ((2010 : Int) < (qn : Int)) := by
          rw [greatD, g1, decide_eq_false (show ¬ qn < 1999 by omega), Bool.and_false, Bool.or_false, Bool.false_or]
          exact decide_eq_decide.2 (by omega)
        rw [e]
        rfl
    · replace g2 := of_decide_eq_false g2
      try simp only [nc] at g2
      try simp only [minF_t] at g2
      try simp only [minF_f] at g2
      try dsimp only at g2
      refine hK.pure rfl (Mem.le_refl _) ?_
      have e : greatD cs qn = decide ((2010 : Int) < (qn : Int)) := by
        rw [greatD, g1, decide_eq_false (show ¬ 40 < qn by omega), Bool.false_and, Bool.or_false, Bool.false_or]
        exact decide_eq_decide.2 (by omega)
      rw [e]
      rfl

theorem agent_spec {M : Mem} {ca qa : Option Addr} {cn ck qn qk : Nat} (ag : Int) : Pure1 46 #[DV ca cn ck qa qn qk, EV ag] M (.bool (hasC cn ag)) := by
  refine ok46.pure 300 [DA ca cn ck qa qn qk, EA ag] rfl (by kernel_rfl) fun c K hK => ?_
  conv => cbv
  refine ⟨fun h1 => ?_, fun h1 => ?_⟩
  · replace h1 := of_decide_eq_true h1
    try simp only [nc] at h1
    try simp only [minF_t] at h1
    try simp only [minF_f] at h1
    try dsimp only at h1
    refine hK.pure rfl (Mem.le_refl _) ?_
    simp only [hasC, decide_eq_true h1, Bool.true_and]
    rfl
  · replace h1 := of_decide_eq_false h1
    try simp only [nc] at h1
    try simp only [minF_t] at h1
    try simp only [minF_f] at h1
    try dsimp only at h1
    refine hK.pure rfl (Mem.le_refl _) ?_
    simp only [hasC, decide_eq_false h1, Bool.false_and]
    rfl

set_option maxRecDepth 100000 in
theorem twin_spec {p : CP} {q : CakeV} {M : Mem} (h : Ck M p q) (hs1 : p.cn ≤ 1000000) (hs2 : p.dn ≤ 1000000) : Spec 48 #[p.val] M fun _ M' v => ∃ p' : CP, v = p'.val ∧ Ck M' p' q := by
  obtain ⟨len, ca, cn, ck, da, dn, dk⟩ := p
  obtain ⟨e1, hi, hc, hd⟩ := h
  simp only at e1 hc hd hs1 hs2
  subst e1
  refine ok48.spec 200 [.agg [EA q.len, SA ca cn ck, SA da dn dk]] rfl (by kernel_rfl) fun c K hK => ?_
  conv => cbv
  refine .mk trivial fun b1 M1 n1 B1 e1 => ?_
  have f1 : M1 = M.set b1 (.row 3 0 []) := e1
  have k1 : ∀ b, M b ≠ none → M1 b = M b := by rw [f1]; exact keep_set n1
  have o1 : OwnL (ElI .i64 I64) c M1 3 1 (some ⟨b1, 0, none⟩) 0 0 [] := OwnL.empty (by rw [f1]; simp [Mem.set]) B1
  conv => cbv
  refine AppS.list (t := 38) (ti := ti38) (ei := ti3) rfl rfl rfl (by decide) rfl (ElI.up _ _) ElI.one o1 (hc.up (ElI.up _ _) (le_of_keep k1)) (by simp only [maxLen]; omega) (by show (0 + cn) * 8 ≤ _; omega) fun M2 a2 c2 h2 g2 => ?_
  have k2 := keep_app k1 hK.lt hK.lent o1 g2
  have r2 : RI M2 a2 (0 + cn) c2 ([] ++ q.cuts) := h2.rd
  rw [List.nil_append] at r2
  conv => cbv
  refine .mk trivial fun b3 M3 n3 B3 e3 => ?_
  have f3 : M3 = M2.set b3 (.row 3 0 []) := e3
  have k3 : ∀ b, M2 b ≠ none → M3 b = M2 b := by rw [f3]; exact keep_set n3
  have o3 : OwnL (ElI .i64 I64) c M3 3 1 (some ⟨b3, 0, none⟩) 0 0 [] := OwnL.empty (by rw [f3]; simp [Mem.set]) B3
  have k03 := keep_trans k2 k3
  conv => cbv
  refine AppS.list (t := 38) (ti := ti38) (ei := ti3) rfl rfl rfl (by decide) rfl (ElI.up _ _) ElI.one o3 (hd.up (ElI.up _ _) (le_of_keep k03)) (by simp only [maxLen]; omega) (by show (0 + dn) * 8 ≤ _; omega) fun M4 a4 c4 h4 g4 => ?_
  have k4 := keep_app k03 hK.lt hK.lent o3 g4
  have r4 : RI M4 a4 (0 + dn) c4 ([] ++ q.dens) := h4.rd
  rw [List.nil_append] at r4
  conv => cbv
  refine hK.ground rfl (Keeps.of_keep k4) ⟨⟨q.len, a2, 0 + cn, c2, a4, 0 + dn, c4⟩, rfl, rfl, hi, (r2.up (ElI.up _ _) (le_of_keep k3)).up (ElI.up _ _) g4.le, r4⟩

set_option maxRecDepth 100000 in
theorem twins_spec {cs : List CakeV} {a : Option Addr} {n k : Nat} {M : Mem} (h : RC M a n k cs) (hs : cs.length ≤ 1000) (hsz : ∀ c ∈ cs, c.cuts.length ≤ 1000 ∧ c.dens.length ≤ 1000) :
    Spec 47 #[SV a n k] M fun B M' v => ∃ a' k', v = SV a' n k' ∧ RC M' a' n k' cs ∧ (0 < n → ∃ b cells, a' = some ⟨b, 0, none⟩ ∧ B ≤ b ∧ M' b = some (.row 40 (k' * 3) cells)) := by
  have hn := h.len
  refine ok47.spec 200 [SA a n k] rfl (by kernel_rfl) fun c K hK => ?_
  conv => cbv
  refine OKS.loopH (fun (p : Nat × Mem × Option Addr × Nat) => p.1 ≤ n ∧ OwnL ElC c p.2.1 40 3 p.2.2.1 p.1 p.2.2.2 (cs.take p.1) ∧ ∀ b, M b ≠ none → p.2.1 b = M b)
    (fun p => [(3, SA p.2.2.1 p.1 p.2.2.2), (4, EA p.1)]) (fun _ => []) (fun p => p.2.1) (fun p => n - p.1) (0, M, none, 0) ⟨by simp, OwnL.nil, fun _ _ => rfl⟩ ?_ ?_
  · refine ⟨by cbv <;> simp, by cbv <;> simp, by cbv, Mem.le_refl _⟩
  · intro ⟨i, Mi, a', k'⟩ ⟨hi1, hown, hkp⟩ ih
    simp only at hi1 hown hkp
    have hcM : RC Mi a n k cs := h.up ElC.up (le_of_keep hkp)
    refine ok47.go 100 (by kernel_rfl) ?_
    conv => cbv
    refine ⟨fun l1 => ?_, fun l1 => ?_⟩
    · replace l1 := of_decide_eq_true l1
      try simp only [nc] at l1
      try simp only [minF_t] at l1
      try simp only [minF_f] at l1
      try dsimp only at l1
      obtain ⟨b, o, p, ea, hp, hck⟩ := hcM.cake (i := i) (by omega)
      have hz := hsz _ (List.getElem_mem (show i < cs.length by omega))
      have z1 := hck.cuts.len
      have z2 := hck.dens.len
      refine .mk b o i ea rfl (by show i < n; omega) ?_
      conv => cbv
      refine .mk p.avs rfl rfl hp ?_
      conv => cbv
      refine CallS.spec (twin_spec hck (by omega) (by omega)) rfl fun B1 M1 v1 hB1 hlt1 hk1 hn1 ⟨p1, ev1, h1⟩ => ⟨p1.av, rfl, ev1.symm, ?_⟩
      conv => cbv
      refine .mk trivial fun b3 M3 hn3 hB3 hM3 => ?_
      conv => cbv
      have hM3' : M3 = M1.set b3 (.row 40 3 p1.cells) := hM3
      have kp3 : ∀ b, M1 b ≠ none → M3 b = M1 b := by rw [hM3']; exact keep_set hn3
      have kpi : ∀ b, Mi b ≠ none → M3 b = Mi b := keep_trans hk1.keep kp3
      have kp : ∀ b, M b ≠ none → M3 b = M b := keep_trans hkp kpi
      have hown3 := hown.keep ElC.up kpi
      have hone : RC M3 (some ⟨b3, 0, none⟩) 1 1 [cs[i]] := RdL.one (fun _ _ _ => trivial) (CellsAt.new hM3') rfl ⟨_, rfl, h1.up (le_of_keep kp3)⟩ (by omega)
      refine AppS.list (t := 53) (ti := ti53) (ei := ti40) rfl rfl rfl (by decide) rfl ElC.up ElC.one hown3 hone (by simp only [maxLen]; omega) (by show (i + 1) * 56 ≤ _; omega) fun M4 a4 k4 h4 g4 => ?_
      conv => cbv
      refine .i64 ((i + 1 : Nat) : Int) (by show (i : Int) + 1 = _; omega) (by omega) (by omega) ?_
      conv => cbv
      rw [← take_snoc (show i < cs.length by omega)] at h4
      refine ih (i + 1, M4, a4, k4) ⟨by simp only; omega, h4, keep_app kp hK.lt hK.lent hown3 g4⟩ (by simp only; omega) _ ?_
      refine ⟨by cbv <;> simp, by cbv <;> simp, by cbv, Mem.le_refl _⟩
    · replace l1 := of_decide_eq_false l1
      try simp only [nc] at l1
      try simp only [minF_t] at l1
      try simp only [minF_f] at l1
      try dsimp only at l1
      have : i = cs.length := by omega
      subst this
      rw [List.take_length] at hown
      refine hK.ground rfl (Keeps.of_keep hkp) ⟨a', k', ?_, ?_, fun hpos => ?_⟩
      · simp only [AV.val, AV.den, hn]
      · rw [hn]; exact hown.rd
      · obtain ⟨_, cells, h1, _⟩ := hown
        rcases h1.row with ⟨_, h2, _⟩ | ⟨g, h2, h3, h4, _⟩
        · omega
        · rcases h3 with h3 | h3
          · exact ⟨g, _, h2, h3, h4⟩
          · rw [hK.lent] at h3; cases h3

end Go.SX

/- A contract over less memory serves over more. -/
namespace Go.SX
open Go.Proofs.Try Go.Proofs

/-- **A contract over less memory serves over more.** -/
theorem Spec.frame {f : Nat} {args : Array Value} {M0 M : Mem} {Post : Nat → Mem → Value → Prop} (h : Spec f args M0 Post) (hle : M0.le M) :
    Spec f args M fun B M' v => ∃ M0' : Mem, M0'.le M' ∧ Keeps noL M0 M0' ∧ (∀ b, M0' b ≠ none → M0 b ≠ none ∨ B ≤ b) ∧ Post B M0' v := by
  intro w hm
  refine (h w (Mem.on_le hle hm)).mono ?_
  rintro v w' ⟨M0', h1, h2, h3, h4, h5⟩
  have hB : ∀ b, M b ≠ none → b < w.heap.size := fun b hb => mem_lt hm hb
  have hM' : ∀ b f, M b = some f → f.on w'.heap[b]? := fun b f hb => by
    rw [h2.block b (hB b (by rw [hb]; simp)) rfl]
    exact hm b f hb
  refine ⟨fun b => match M b with | some f => some f | none => M0' b, ?_, h2, ?_, ?_, M0', ?_, h3, h4, h5⟩
  · intro b f hb
    simp only at hb
    cases hc : M b with
    | some g => rw [hc] at hb; cases hb; exact hM' b _ hc
    | none => rw [hc] at hb; exact h1 b f hb
  · intro b hb _
    simp only
    cases hc : M b with
    | some g => rfl
    | none => exact absurd hc hb
  · intro b hb
    simp only at hb
    cases hc : M b with
    | some g => exact .inl (by simp)
    | none =>
      rw [hc] at hb
      rcases h4 b hb with h | h
      · cases h0 : M0 b with
        | none => exact absurd h0 h
        | some g => obtain ⟨g', k, _⟩ := hle b g h0; rw [hc] at k; cases k
      · exact .inr h
  · intro b f hb
    simp only
    cases hc : M b with
    | none => exact ⟨f, hb, f.le_refl⟩
    | some g =>
      rcases h4 b (by rw [hb]; simp) with h | h
      · have e := h3 b h rfl
        rw [hb] at e
        obtain ⟨g', k1, k2⟩ := hle b f e.symm
        rw [hc] at k1
        cases k1
        exact ⟨g, rfl, k2⟩
      · have := hB b (by rw [hc]; simp)
        omega

end Go.SX

/- Cakes in a row of one's own. -/
namespace Go.SX
open Go.Proofs.Try Go.Proofs

def Mem.del' (M : Mem) (b : Nat) : Mem := fun i => if i = b then none else M i
theorem le_del' {Mc M : Mem} {b : Nat} (h : Mc.le M) (hb : Mc b = none) : Mc.le (M.del' b) := fun i f hi => by
  obtain ⟨g, h1, h2⟩ := h i f hi
  have : i ≠ b := fun e => by subst e; rw [hb] at hi; cases hi
  exact ⟨g, by simp [Mem.del', this, h1], h2⟩
theorem del_le' (M : Mem) (b : Nat) : (M.del' b).le M := fun i f h => by
  unfold Mem.del' at h
  split at h
  · cases h
  · exact ⟨f, h, f.le_refl⟩
theorem none_le {M M' : Mem} {b : Nat} (h : M.le M') (hb : M' b = none) : M b = none := by
  cases hc : M b with
  | none => rfl
  | some f => obtain ⟨g, h1, _⟩ := h b f hc; rw [hb] at h1; cases h1

/-- Cakes in a row of one's own: what they hold lies elsewhere. -/
def RowC (c : Ct) (M : Mem) (a : Option Addr) (n k : Nat) (cs : List CakeV) : Prop :=
  n = cs.length ∧ ∃ (ps : List CP) (Mc : Mem), Own c M 40 3 a n k (ps.map CP.cells).flatten ∧ Mc.le M ∧ (∀ g, a = some ⟨g, 0, none⟩ → Mc g = none) ∧ All2 (fun p x => Ck Mc p x) ps cs

theorem RowC.all {M : Mem} : ∀ {ps : List CP} {cs : List CakeV}, All2 (fun p x => Ck M p x) ps cs → All2 (fun c x => c.length = 3 ∧ ElC M c x) (ps.map CP.cells) cs
  | [], [], _ => trivial
  | _ :: _, _ :: _, h => ⟨⟨rfl, _, rfl, h.1⟩, RowC.all h.2⟩
  | [], _ :: _, h => h.elim
  | _ :: _, [], h => h.elim

theorem RowC.rd {c : Ct} {M : Mem} {a : Option Addr} {n k : Nat} {cs : List CakeV} (h : RowC c M a n k cs) : RC M a n k cs :=
  let ⟨h0, _, _, h1, h2, _, h4⟩ := h
  h1.rd rfl (RowC.all (h4.mono fun _ _ hc => hc.up h2)) h0

theorem RowC.keep {c : Ct} {M M' : Mem} {a : Option Addr} {n k : Nat} {cs : List CakeV} (h : RowC c M a n k cs) (hk : ∀ b, M b ≠ none → M' b = M b) : RowC c M' a n k cs :=
  let ⟨h0, ps, Mc, h1, h2, h3, h4⟩ := h
  ⟨h0, ps, Mc, h1.keep hk, Mem.le_trans h2 (le_of_keep hk), h3, h4⟩

theorem RowC.nil {c : Ct} {M : Mem} : RowC c M none 0 0 [] := ⟨rfl, [], M, Own.nil .., Mem.le_refl _, (fun _ h => by cases h), trivial⟩

theorem CP.one (p : CP) : ∀ u ∈ p.cells, u.oneCell' = true := fun u hu => by
  simp only [CP.cells, List.mem_cons, List.not_mem_nil, or_false] at hu
  rcases hu with rfl | rfl | rfl <;> rfl

/-- One cake more. -/
theorem append_cake {c : Ct} {M : Mem} {up : Bool} {p : Mem → AV → Prop} {a : Option Addr} {n k b : Nat} {cs : List CakeV} {q : CP} {x : CakeV} (h : RowC c M a n k cs) (hb : CellsAt M b 0 q.cells) {M0 : Mem} (h0 : M0.le M) (hq : Ck M0 q x)
    (h0g : ∀ g, a = some ⟨g, 0, none⟩ → M0 g = none) (hn : n ≤ 1000) (hp : ∀ M' a' k', RowC c M' a' (n + 1) k' (cs ++ [x]) → Grows c a a' M M' → p M' (SA a' (n + 1) k')) : AppS c up [53, 53] [SA a n k, SA (some ⟨b, 0, none⟩) 1 1] M p := by
  obtain ⟨e0, ps, Mc, h1, h2, h3, h4⟩ := h
  refine AppS.own (t := 53) (e := 40) (ti := ti53) (ei := ti40) rfl rfl rfl (by decide) rfl (x := SA a n k) (y := SA _ 1 1) rfl h1 rfl hb rfl (CP.one q) (by simp only [maxLen]; omega) (by show (n + 1) * 56 ≤ _; omega) fun M' a' k' h5 h6 => hp M' a' k' ⟨by simp [e0], ps ++ [q], ?_⟩ h6
  have hg : ∀ N : Mem, N.le M → (∀ g, a = some ⟨g, 0, none⟩ → N g = none) → ∀ g, a' = some ⟨g, 0, none⟩ → N g = none := fun N hN hNg g hga => by
    rcases h6.at_ with e | ⟨g', e, hg', _⟩
    · exact hNg g (by first | exact e.symm.trans hga | exact e.trans hga)
    · rw [hga] at e
      cases e
      exact none_le hN hg'
  rcases h5.row with ⟨_, hz, _⟩ | ⟨g, hga, _⟩
  · exact absurd hz (Nat.succ_ne_zero n)
  · refine ⟨M'.del' g, ?_, del_le' _ _, fun g' hg' => ?_, ?_⟩
    · rw [List.map_append, List.flatten_append]
      have h5' : Own c M' 40 3 a' (n + 1) k' ((ps.map CP.cells).flatten ++ q.cells) := h5
      simpa using h5'
    · rw [hga] at hg'
      cases hg'
      simp [Mem.del']
    · have l1 := le_del' (Mem.le_trans h2 h6.le) (hg Mc h2 h3 g hga)
      have l2 := le_del' (Mem.le_trans h0 h6.le) (hg M0 h0 h0g g hga)
      exact (h4.mono fun _ _ hc => hc.up l1).append (All2.one (hq.up l2))

end Go.SX

/- Reference: copies of cakes in a row of their own. -/
namespace Go.SX
open Go.Proofs.Try Go.Proofs

/-- Cakes in a row that a call has laid: what they hold lies elsewhere. -/
def RowN (B : Nat) (M : Mem) (a : Option Addr) (n k : Nat) (cs : List CakeV) : Prop :=
  n = cs.length ∧ ∃ (ps : List CP) (Mc : Mem), Mc.le M ∧ All2 (fun p x => Ck Mc p x) ps cs ∧ ((a = none ∧ n = 0 ∧ k = 0) ∨ ∃ g, a = some ⟨g, 0, none⟩ ∧ B ≤ g ∧ M g = some (.row 40 (k * 3) (ps.map CP.cells).flatten) ∧ Mc g = none ∧ n ≤ k ∧ k ≤ maxLen)

theorem RowN.of {c : Ct} {M : Mem} {a : Option Addr} {n k : Nat} {cs : List CakeV} (h : RowC c M a n k cs) (hl : c.lent = noL) : RowN c.B0 M a n k cs := by
  obtain ⟨h0, ps, Mc, h1, h2, h3, h4⟩ := h
  refine ⟨h0, ps, Mc, h2, h4, ?_⟩
  rcases h1.row with ⟨e1, e2, e3⟩ | ⟨g, e1, e2, e3, e4, e5⟩
  · exact .inl ⟨e1, e2, e3⟩
  · refine .inr ⟨g, e1, ?_, e3, h3 g e1, e4, e5⟩
    rcases e2 with e2 | e2
    · exact e2
    · rw [hl] at e2; cases e2

set_option maxRecDepth 100000 in
theorem twinsN_spec {cs : List CakeV} {a : Option Addr} {n k : Nat} {M : Mem} (h : RC M a n k cs) (hs : cs.length ≤ 1000) (hsz : ∀ c ∈ cs, c.cuts.length ≤ 1000 ∧ c.dens.length ≤ 1000) :
    Spec 47 #[SV a n k] M fun B M' v => ∃ a' k', v = SV a' n k' ∧ RowN B M' a' n k' cs := by
  have hn := h.len
  refine ok47.spec 200 [SA a n k] rfl (by kernel_rfl) fun c K hK => ?_
  conv => cbv
  refine OKS.loopH (fun (p : Nat × Mem × Option Addr × Nat) => p.1 ≤ n ∧ RowC c p.2.1 p.2.2.1 p.1 p.2.2.2 (cs.take p.1) ∧ ∀ b, M b ≠ none → p.2.1 b = M b)
    (fun p => [(3, SA p.2.2.1 p.1 p.2.2.2), (4, EA p.1)]) (fun _ => []) (fun p => p.2.1) (fun p => n - p.1) (0, M, none, 0) ⟨by simp, RowC.nil, fun _ _ => rfl⟩ ?_ ?_
  · refine ⟨by cbv <;> simp, by cbv <;> simp, by cbv, Mem.le_refl _⟩
  · intro ⟨i, Mi, a', k'⟩ ⟨hi1, hown, hkp⟩ ih
    simp only at hi1 hown hkp
    refine ok47.go 100 (by kernel_rfl) ?_
    conv => cbv
    refine ⟨fun l1 => ?_, fun l1 => ?_⟩
    · replace l1 := of_decide_eq_true l1
      try simp only [nc] at l1
      try simp only [minF_t] at l1
      try simp only [minF_f] at l1
      try dsimp only at l1
      obtain ⟨b, o, p, ea, hp, hck⟩ := h.cake (i := i) (by omega)
      have hz := hsz _ (List.getElem_mem (show i < cs.length by omega))
      have z1 := hck.cuts.len
      have z2 := hck.dens.len
      refine .mk b o i ea rfl (by show i < n; omega) ?_
      conv => cbv
      refine .mk p.avs rfl rfl (CellsAt.le (le_of_keep hkp) hp) ?_
      conv => cbv
      refine CallS.spec (Spec.frame (twin_spec hck (by omega) (by omega)) (le_of_keep hkp)) rfl fun B1 M1 v1 hB1 hlt1 hk1 hn1 ⟨M0', q1, q2, q3, p1, ev1, h1⟩ => ⟨p1.av, rfl, ev1.symm, ?_⟩
      conv => cbv
      refine .mk trivial fun b3 M3 hn3 hB3 hM3 => ?_
      conv => cbv
      have hM3' : M3 = M1.set b3 (.row 40 3 p1.cells) := hM3
      have kp3 : ∀ b, M1 b ≠ none → M3 b = M1 b := by rw [hM3']; exact keep_set hn3
      have kpi : ∀ b, Mi b ≠ none → M3 b = Mi b := keep_trans hk1.keep kp3
      have kp : ∀ b, M b ≠ none → M3 b = M b := keep_trans hkp kpi
      have h0g : ∀ g, a' = some ⟨g, 0, none⟩ → M0' g = none := fun g hg => by
        obtain ⟨_, ps, Mc, r1, _, _, _⟩ := hown
        rcases r1.row with ⟨e1, _, _⟩ | ⟨g', e1, e2, e3, _, _⟩
        · rw [hg] at e1; cases e1
        · rw [hg] at e1
          cases e1
          have hgB : c.B0 ≤ g := by
            rcases e2 with e2 | e2
            · exact e2
            · rw [hK.lent] at e2; cases e2
          cases hc : M0' g with
          | none => rfl
          | some f =>
            have hlt := hlt1 g (by rw [e3]; simp)
            rcases q3 g (by rw [hc]; simp) with e | e
            · have := hK.lt g e; omega
            · omega
      refine append_cake (hown.keep kpi) (CellsAt.new hM3') (Mem.le_trans q1 (le_of_keep kp3)) h1 h0g (by omega) fun M4 a4 k4 h4 g4 => ?_
      conv => cbv
      refine .i64 ((i + 1 : Nat) : Int) (by show (i : Int) + 1 = _; omega) (by omega) (by omega) ?_
      conv => cbv
      rw [← take_snoc (show i < cs.length by omega)] at h4
      obtain ⟨_, _, _, r1, _⟩ := hown
      refine ih (i + 1, M4, a4, k4) ⟨by simp only; omega, h4, ?_⟩ (by simp only; omega) _ ?_
      · intro b hb
        have e1 := kp b hb
        show M4 b = M b
        rw [g4.keep b (by rw [e1]; exact hb) ?_, e1]
        rintro g hga rfl
        have hga : a' = some ⟨b, 0, none⟩ := hga
        rcases r1.row with ⟨e2, _⟩ | ⟨g', e2, e3, _⟩
        · rw [hga] at e2; cases e2
        · rw [hga] at e2
          cases e2
          rcases e3 with e3 | e3
          · have := hK.lt b hb; omega
          · rw [hK.lent] at e3; cases e3
      · refine ⟨by cbv <;> simp, by cbv <;> simp, by cbv, Mem.le_refl _⟩
    · replace l1 := of_decide_eq_false l1
      try simp only [nc] at l1
      try simp only [minF_t] at l1
      try simp only [minF_f] at l1
      try dsimp only at l1
      have : i = cs.length := by omega
      subst this
      rw [List.take_length] at hown
      refine hK.ground rfl (Keeps.of_keep hkp) ⟨a', k', ?_, ?_⟩
      · simp only [AV.val, AV.den, hn]
      · rw [hn]; exact RowN.of hown hK.lent

end Go.SX
