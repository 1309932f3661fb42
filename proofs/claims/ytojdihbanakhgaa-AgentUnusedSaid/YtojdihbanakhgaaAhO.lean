/- Law 36: AgentUnused. -/
import Derived.Test.YtojdihbanakhgaaAhN
namespace Go.SX
open Go.Proofs.Try Go.Proofs

section
variable {α : Type} {c : Ct} {M M' : Mem} {R : ElR α} {e sz : Nat} {a a' b : Option Addr} {n cap : Nat} {l : List α}

/-- A list of one's own while another one grows. -/
theorem OwnL.other (hR : R.Up) (h : OwnL R c M e sz b n cap l) (hg : Grows c a a' M M') (hd : ∀ g, a = some ⟨g, 0, none⟩ → b ≠ some ⟨g, 0, none⟩) : OwnL R c M' e sz b n cap l := by
  obtain ⟨h0, cs, h1, h2⟩ := h
  refine ⟨h0, cs, ⟨h1.len, h1.row.imp_right fun ⟨g, e1, e2, e3, e4, e5⟩ => ⟨g, e1, e2, ?_, e4, e5⟩⟩, h2.mono fun c x ⟨k1, k2⟩ => ⟨k1, hR _ _ hg.le c x k2⟩⟩
  rw [hg.keep g (by rw [e3]; simp) (fun g' hg' => ?_)]
  · exact e3
  · intro hh
    subst hh
    exact hd g hg' e1

theorem OwnL.apart (h : OwnL R c M e sz b n cap l) (hg : Grows c a a' M M') (hd : ∀ g, a = some ⟨g, 0, none⟩ → b ≠ some ⟨g, 0, none⟩) : ∀ g, a' = some ⟨g, 0, none⟩ → b ≠ some ⟨g, 0, none⟩ := fun g hga hb => by
  rcases hg.at_ with e1 | ⟨g', e1, e2, e3⟩
  · exact hd g (by rw [← e1]; exact hga) hb
  · rw [hga] at e1
    cases e1
    obtain ⟨_, cs, h1, _⟩ := h
    rcases h1.row with ⟨e4, _⟩ | ⟨g', e4, _, e5, _⟩
    · rw [hb] at e4; cases e4
    · rw [hb] at e4
      cases e4
      rw [e2] at e5; cases e5
end

def oneO (x : ActV) (c : CakeV) (f : Int) : ActV := if x.after = -1 ∨ f < x.after then ⟨x.own, c, x.after, x.asked⟩ else x
def oneT (x : ActV) : ActV := if x.after = 0 then ⟨x.told, x.own, -1, 0⟩ else x

def PO (F : Nat → Int) (j : Nat) (x y : ActV) : Prop := y.own = x.own ∧ y.after = x.after ∧ y.asked = x.asked ∧ (y.told = x.told ∨ x.after = -1 ∨ F j < x.after)
def PT (_j : Nat) (x y : ActV) : Prop := 0 ≤ x.asked ∧ (y = x ∨ (x.after = 0 ∧ y = ⟨x.told, x.own, -1, x.asked⟩))

theorem po_act {F : Nat → Int} (j : Nat) (x y : ActV) (h : PO F j x y) (ha : x.asked ≤ F j) : actC x = actC y := by
  obtain ⟨h1, h2, h3, h4⟩ := h
  unfold actC
  rw [h1, h2, h3]
  rcases h4 with h4 | h4 | h4
  · rw [h4]
  · rw [if_neg (by omega), if_neg (by omega)]
  · rw [if_neg (by omega), if_neg (by omega)]
theorem po_more {F : Nat → Int} (j : Nat) (x y : ActV) (h : PO F j x y) : PO F j x.more y.more :=
  ⟨h.1, h.2.1, by show y.asked + 1 = x.asked + 1; rw [h.2.2.1], h.2.2.2⟩
theorem pt_act {F : Nat → Int} (j : Nat) (x y : ActV) (h : PT j x y) (_ha : x.asked ≤ F j) : actC x = actC y := by
  obtain ⟨h1, h2 | ⟨h2, h3⟩⟩ := h
  · rw [h2]
  · subst h3
    unfold actC
    rw [if_pos (by omega), if_neg (by simp)]
theorem pt_more (j : Nat) (x y : ActV) (h : PT j x y) : PT j x.more y.more := by
  obtain ⟨h1, h2 | ⟨h2, h3⟩⟩ := h
  · exact ⟨by show 0 ≤ x.asked + 1; omega, .inl (by rw [h2])⟩
  · exact ⟨by show 0 ≤ x.asked + 1; omega, .inr ⟨h2, by rw [h3]; rfl⟩⟩

theorem told_ok {l t : List ActV} (h : meetC l [] = 0) (hl : t.length = l.length) (ht : ∀ j (h1 : j < t.length) (h2 : j < l.length), t[j] = oneT l[j]) : meetC t [] = 0 := by
  obtain ⟨d1, d2, d3, d4, d5⟩ := meetC_ok h
  have hz : ∀ j (hj : j < l.length), l[j].own.len = l[0].own.len ∧ l[j].told.len = l[0].own.len ∧ -1 ≤ l[j].after ∧ l[j].after ≤ 2000 ∧ l[j].asked = 0 := fun j hj => by
    have := d5 j hj
    have e : (l.headD ⟨⟨0, [], []⟩, ⟨0, [], []⟩, 0, 0⟩) = l[0] := by cases l with
      | nil => simp at hj
      | cons x l => rfl
    rw [e] at this
    simpa [cntL] using this
  have key : ∀ s : List ActV, (∀ x ∈ s, checkC x.own = 0 ∧ checkC x.told = 0) → firstA s = 0 := by
    intro s
    induction s with
    | nil => intro _; rfl
    | cons x s ih =>
      intro hs
      have := hs x (by simp)
      rw [firstA, if_neg (by omega), if_neg (by omega), ih fun y hy => hs y (by simp [hy])]
  have hc : ∀ x ∈ t, checkC x.own = 0 ∧ checkC x.told = 0 := fun x hx => by
    obtain ⟨j, hj, rfl⟩ := List.getElem_of_mem hx
    rw [ht j hj (by omega), oneT]
    have := d4 l[j] (List.getElem_mem (by omega))
    split
    · exact ⟨this.2, this.1⟩
    · exact this
  rw [meetC_ne (by simp; omega) (by omega), key t hc, if_neg (by simp), if_pos]
  have e0 : t[0].own.len = l[0].own.len := by
    rw [ht 0 (by omega) (by omega), oneT]
    have := hz 0 (by omega)
    split
    · exact this.2.1
    · rfl
  rw [e0]
  refine actsOk_iff.2 fun j hj => ?_
  have := hz j (by omega)
  have hc0 : (cntL [] ((0 + j : Nat) : Int) : Int) = 0 := rfl
  rw [ht j hj (by omega), oneT]
  by_cases e : l[j].after = 0
  · rw [if_pos e]
    simp only [actOk, Bool.and_eq_true, decide_eq_true_eq, hc0, and_true]
    omega
  · rw [if_neg e]
    simp only [actOk, Bool.and_eq_true, decide_eq_true_eq, hc0]
    omega

set_option maxHeartbeats 4000000 in
set_option maxRecDepth 100000 in
theorem agentUnused_spec {l : List ActV} {cakes : List CakeV} {q : List QV} {M : Mem} {a oa qa : Option Addr} {n k on ok qn qk : Nat} (h : RActs M a n k l) (ho : RC M oa on ok cakes) (hq : RQ M qa qn qk q) (hb : on ≤ 9223372036854775807) :
    Spec 11 #[SV a n k, SV oa on ok, SV qa qn qk] M fun _ _ v => v = .bool true := by
  have hn := h.len
  have hon := ho.len
  have hqn := hq.len
  refine ok11.spec 400 [SA a n k, SA oa on ok, SA qa qn qk] rfl (by kernel_rfl) fun c K hK => ?_
  conv => cbv
  refine CallS.spec (alive36_spec M) rfl fun B0 M0 v0 hB0 hlt0 hk0 hn0 ev0 => ⟨.tt, rfl, ev0.symm, ?_⟩
  conv => cbv
  refine CallS.spec (greatActs_spec (h.up ElA.up hk0.le)) rfl fun B1 M1 v1 hB1 hlt1 hk1 hn1 ev1 => ⟨.sb fun _ => greatA l, rfl, ev1.symm, ?_⟩
  have K1 := keep_trans hk0.keep hk1.keep
  conv => cbv
  refine ⟨fun g1 => ?_, fun g1 => ?_⟩
  · exact hK.ground rfl (Keeps.of_keep K1) rfl
  · refine CallS.pure (greatCakes_spec (ho.up ElC.up (le_of_keep K1)) hb) rfl (.sb fun _ => greatL cakes) rfl rfl ?_
    conv => cbv
    refine ⟨fun g2 => ?_, fun g2 => ?_⟩
    · exact hK.ground rfl (Keeps.of_keep K1) rfl
    · refine ⟨fun g3 => ?_, fun g3 => ?_⟩
      · exact hK.ground rfl (Keeps.of_keep K1) rfl
      · replace g3 := of_decide_eq_false g3
        try simp only [nc] at g3
        try simp only [minF_t] at g3
        try simp only [minF_f] at g3
        try dsimp only at g3
        refine ⟨fun g4 => ?_, fun g4 => ?_⟩
        · exact hK.ground rfl (Keeps.of_keep K1) rfl
        · replace g4 := of_decide_eq_false g4
          try simp only [nc] at g4
          try simp only [minF_t] at g4
          try simp only [minF_f] at g4
          try dsimp only at g4
          refine CallS.spec (open36_spec (h.up ElA.up (le_of_keep K1))) rfl fun B3 M3 v3 hB3 hlt3 hk3 hn3 ⟨u3, ev3, aa3, ak3, qa3, qk3, eu3, ra3, rq3⟩ => ⟨.tup [MA aa3 (openR l).acts.length ak3 qa3 (openR l).log.length qk3, EA (meetC l [])], rfl, (by rw [ev3, eu3]; rfl), ?_⟩
          have K3 := keep_trans K1 hk3.keep
          conv => cbv
          refine ⟨fun e1 => ?_, fun e1 => ?_⟩
          · exact hK.ground rfl (Keeps.of_keep K3) rfl
          · replace e1 := of_decide_eq_false e1
            try simp only [nc] at e1
            try simp only [minF_t] at e1
            try simp only [minF_f] at e1
            try dsimp only at e1
            have e1 : meetC l [] = 0 := by omega
            obtain ⟨d1, d2, d3, d4, d5⟩ := meetC_ok e1
            have o1 : openR l = ⟨l, []⟩ := by rw [openR, if_pos e1]
            rw [o1] at ra3 rq3
            rw [o1]
            have hq30 : q.length ≤ 30 := by omega
            have rR : ∀ (x : List ActV), meetC x [] = 0 → runR ⟨x, []⟩ q = runM ⟨x, []⟩ q 0 := fun x hx => by
              rw [runR, if_neg (fun k => k hx), if_neg (by omega)]
            have s6 := run_spec ra3 rq3 (hq.up ElQ.up (le_of_keep K3))
            have er1 := rR l e1
            have rok := runM_ok q ⟨l, []⟩ 0
            obtain ⟨ra, hra⟩ : ∃ ra, runM ⟨l, []⟩ q 0 = ra := ⟨_, rfl⟩
            rw [hra] at er1 rok
            rw [show runR ⟨(⟨l, []⟩ : MtV).acts, (⟨l, []⟩ : MtV).log⟩ q = ra from er1] at s6
            have ralen : ra.1.acts.length = l.length := rok.len
            have rahi := rok.hi
            have ralog : ra.1.log.length = ra.2.1 := by
              obtain ⟨L', c1', c2', _⟩ := rok.log
              rw [c1', List.length_append, c2']; simp
            refine CallS.spec s6 rfl fun B6 M6 v6 hB6 hlt6 hk6 hn6 ⟨u6, ev6, aa6, ak6, qa6, qk6, eu6, ra6, rq6⟩ => ⟨.tup [MA aa6 ra.1.acts.length ak6 qa6 ra.1.log.length qk6, EA (ra.2.1 : Nat), EA ra.2.2], rfl, (by rw [ev6, eu6]; rfl), ?_⟩
            have K6 := keep_trans K3 hk6.keep
            conv => cbv
            refine ⟨fun e2 => ?_, fun e2 => ?_⟩
            · replace e2 := of_decide_eq_true e2
              try simp only [nc] at e2
              try simp only [minF_t] at e2
              try simp only [minF_f] at e2
              try dsimp only at e2
              omega
            · have h6 := h.up ElA.up (le_of_keep K6)
              have ho6 := ho.up ElC.up (le_of_keep K6)
              refine OKS.loopH (fun (p : Nat × Mem × Option Addr × Nat × List ActV × Option Addr × Nat × List ActV) => p.1 ≤ n ∧ p.2.2.2.2.1.length = p.1 ∧ p.2.2.2.2.2.2.2.length = p.1 ∧ OwnL ElA c p.2.1 97 8 p.2.2.1 p.1 p.2.2.2.1 p.2.2.2.2.1 ∧ OwnL ElA c p.2.1 97 8 p.2.2.2.2.2.1 p.1 p.2.2.2.2.2.2.1 p.2.2.2.2.2.2.2 ∧
                  (∀ g, p.2.2.1 = some ⟨g, 0, none⟩ → p.2.2.2.2.2.1 ≠ some ⟨g, 0, none⟩) ∧ (∀ b, M6 b ≠ none → p.2.1 b = M6 b) ∧ (∀ j (h1 : j < p.2.2.2.2.1.length) (h2 : j < l.length) (h3 : j < cakes.length) (h4 : j < ra.1.acts.length), p.2.2.2.2.1[j] = oneO l[j] cakes[j] ra.1.acts[j].asked) ∧ (∀ j (h1 : j < p.2.2.2.2.2.2.2.length) (h2 : j < l.length), p.2.2.2.2.2.2.2[j] = oneT l[j]) ∧ ((∀ g, p.2.2.1 = some ⟨g, 0, none⟩ → ¬ M6 g ≠ none) ∧ ∀ g, p.2.2.2.2.2.1 = some ⟨g, 0, none⟩ → ¬ M6 g ≠ none))
                (fun p => [(13, SA p.2.2.1 p.1 p.2.2.2.1), (14, SA p.2.2.2.2.2.1 p.1 p.2.2.2.2.2.2.1), (15, EA p.1)]) (fun _ => [(16, .none), (17, .none)]) (fun p => p.2.1) (fun p => n - p.1) (0, M6, none, 0, [], none, 0, []) ⟨by simp, rfl, rfl, OwnL.nil, OwnL.nil, (fun _ h => by cases h), fun _ _ => rfl, fun j h1 => absurd h1 (by simp), fun j h1 => absurd h1 (by simp), (fun _ h => by cases h), (fun _ h => by cases h)⟩ ?_ ?_
              · refine ⟨by cbv <;> simp, by cbv <;> simp, by cbv, Mem.le_refl _⟩
              · intro ⟨i, Mi, a1, k1, acc1, a2, k2, acc2⟩ ⟨hi1, hl1, hl2, hw1, hw2, hdis, hkp, hp1, hp2, hfar⟩ ih
                simp only at hi1 hl1 hl2 hw1 hw2 hdis hkp hp1 hp2 hfar
                have hM := h6.up ElA.up (le_of_keep hkp)
                have hoM := ho6.up ElC.up (le_of_keep hkp)
                have hrM := ra6.up ElA.up (le_of_keep hkp)
                refine ok11.go 10 (by kernel_rfl) ?_
                conv => cbv
                refine ⟨fun l1 => ?_, fun l1 => ?_⟩
                · replace l1 := of_decide_eq_true l1
                  try simp only [nc] at l1
                  try simp only [minF_t] at l1
                  try simp only [minF_f] at l1
                  try dsimp only at l1
                  obtain ⟨b, o, p, ea, hp, hak⟩ := hM.actor (i := i) (by omega)
                  obtain ⟨br, or', pr, ear, hpr, hakr⟩ := hrM.actor (i := i) (by omega)
                  obtain ⟨bc, oc, pc, eac, hpc, hck⟩ := hoM.cake (i := i) (by omega)
                  obtain ⟨x, hx⟩ : ∃ x, l[i] = x := ⟨_, rfl⟩
                  obtain ⟨f, hf⟩ : ∃ f, ra.1.acts[i].asked = f := ⟨_, rfl⟩
                  rw [hx] at hak
                  have x1 := hak.after
                  have x2 := hak.asked
                  have x3 := hakr.asked
                  rw [hf] at x3
                  have x4 : x.asked = 0 := by
                    have := (d5 i (by omega)).2.2.2.2
                    rw [hx] at this
                    simpa [cntL] using this
                  refine .mk b o i ea rfl (by show i < n; omega) ?_
                  conv => cbv
                  refine .mk p.avs rfl rfl hp ?_
                  conv => cbv
                  refine .mk b o i ea rfl (by show i < n; omega) ?_
                  conv => cbv
                  refine .mk p.avs rfl rfl hp ?_
                  conv => cbv
                  refine OKS.cut (κ := AP) (fun pO => Ak Mi pO (oneO x cakes[i] f)) (fun _ => []) (fun pO => [(16, .cells 97 pO.avs)]) (fun _ => Mi) ?_ fun hj => ?_
                  · intro pO hO
                    refine ok11.go 1 (by kernel_rfl) ?_
                    conv => cbv
                    refine OKS.cut (κ := AP) (fun pT => Ak Mi pT (oneT x)) (fun _ => []) (fun pT => [(17, .cells 97 pT.avs)]) (fun _ => Mi) ?_ fun hj => ?_
                    · intro pT hT
                      refine ok11.go 100 (by kernel_rfl) ?_
                      conv => cbv
                      refine .mk trivial fun b3 M7 hn7 hB7 hM7 => ?_
                      conv => cbv
                      have f7 : M7 = Mi.set b3 (.row 97 8 pO.cells) := hM7
                      have k7 : ∀ b, Mi b ≠ none → M7 b = Mi b := by rw [f7]; exact keep_set hn7
                      have hone : RActs M7 (some ⟨b3, 0, none⟩) 1 1 [oneO x cakes[i] f] := RdL.one (fun _ _ _ => trivial) (CellsAt.new f7) rfl ⟨_, rfl, hO.up (le_of_keep k7)⟩ (by omega)
                      have w17 := hw1.keep ElA.up k7
                      have w27 := hw2.keep ElA.up k7
                      refine AppS.list (t := 22) (ti := ti22) (ei := ti97) rfl rfl rfl (by decide) rfl ElA.up ElA.one w17 hone (by simp only [maxLen]; omega) (by show (i + 1) * 128 ≤ _; omega) fun M8 a8 k8 h8 g8 => ?_
                      conv => cbv
                      have w28 := w27.other ElA.up g8 hdis
                      have dis8 := w27.apart g8 hdis
                      refine .mk trivial fun b4 M9 hn9 hB9 hM9 => ?_
                      conv => cbv
                      have f9 : M9 = M8.set b4 (.row 97 8 pT.cells) := hM9
                      have k9 : ∀ b, M8 b ≠ none → M9 b = M8 b := by rw [f9]; exact keep_set hn9
                      have hone2 : RActs M9 (some ⟨b4, 0, none⟩) 1 1 [oneT x] := RdL.one (fun _ _ _ => trivial) (CellsAt.new f9) rfl ⟨_, rfl, ((hT.up (le_of_keep k7)).up g8.le).up (le_of_keep k9)⟩ (by omega)
                      have w19 := h8.keep ElA.up k9
                      have w29 := w28.keep ElA.up k9
                      have dis9 : ∀ g, a2 = some ⟨g, 0, none⟩ → a8 ≠ some ⟨g, 0, none⟩ := fun g e e' => dis8 g e' e
                      refine AppS.list (t := 22) (ti := ti22) (ei := ti97) rfl rfl rfl (by decide) rfl ElA.up ElA.one w29 hone2 (by simp only [maxLen]; omega) (by show (i + 1) * 128 ≤ _; omega) fun M10 a10 k10 h10 g10 => ?_
                      conv => cbv
                      have w110 := w19.other ElA.up g10 dis9
                      have dis10 := w19.apart g10 dis9
                      have kp10 : ∀ b, M6 b ≠ none → M10 b = M6 b := by
                        have hB6' : ∀ b, M6 b ≠ none → (∀ g, a1 = some ⟨g, 0, none⟩ → b ≠ g) ∧ ∀ g, a2 = some ⟨g, 0, none⟩ → b ≠ g := fun b hb => by
                          constructor
                          · rintro g e rfl
                            exact hfar.1 b e hb
                          · rintro g e rfl
                            exact hfar.2 b e hb
                        intro b hb
                        obtain ⟨y1, y2⟩ := hB6' b hb
                        have z0 := hkp b hb
                        have z1 : M7 b = M6 b := by rw [k7 b (by rw [z0]; exact hb), z0]
                        have z2 : M8 b = M6 b := by rw [g8.keep b (by rw [z1]; exact hb) (fun g e => y1 g e), z1]
                        have z3 : M9 b = M6 b := by rw [k9 b (by rw [z2]; exact hb), z2]
                        rw [g10.keep b (by rw [z3]; exact hb) (fun g e => y2 g e), z3]
                      refine .i64 ((i + 1 : Nat) : Int) (by show (i : Int) + 1 = _; omega) (by omega) (by omega) ?_
                      conv => cbv
                      obtain ⟨acc1', ha1⟩ : ∃ acc1', acc1' = acc1 ++ [oneO x cakes[i] f] := ⟨_, rfl⟩
                      obtain ⟨acc2', ha2⟩ : ∃ acc2', acc2' = acc2 ++ [oneT x] := ⟨_, rfl⟩
                      rw [← ha1] at w110
                      rw [← ha2] at h10
                      refine ih (i + 1, M10, a8, k8, acc1', a10, k10, acc2') ⟨by simp only; omega, by rw [ha1]; simp [hl1], by rw [ha2]; simp [hl2], w110, h10, (fun g e e' => dis10 g e' e), kp10, fun j h1 h2 h3 h4 => ?_, fun j h1 h2 => ?_, ?_⟩ (by simp only; omega) _ ?_
                      · simp only at h1 ⊢
                        subst ha1
                        rcases Nat.lt_or_ge j i with hlt | hge
                        · rw [List.getElem_append_left (by omega)]
                          exact hp1 j (by omega) h2 h3 h4
                        · simp at h1
                          have : j = i := by omega
                          subst this
                          have e0 : ∀ (y : ActV) (hh : j < (acc1 ++ [y]).length), (acc1 ++ [y])[j]'hh = y := fun y hh => by
                            rw [List.getElem_append_right (by omega)]
                            simp [hl1]
                          rw [e0, hx, hf]
                      · simp only at h1 ⊢
                        subst ha2
                        rcases Nat.lt_or_ge j i with hlt | hge
                        · rw [List.getElem_append_left (by omega)]
                          exact hp2 j (by omega) h2
                        · simp at h1
                          have : j = i := by omega
                          subst this
                          have e0 : ∀ (y : ActV) (hh : j < (acc2 ++ [y]).length), (acc2 ++ [y])[j]'hh = y := fun y hh => by
                            rw [List.getElem_append_right (by omega)]
                            simp [hl2]
                          rw [e0, hx]
                      · constructor
                        · intro g e hg
                          rcases g8.at_ with e1 | ⟨g', e1, e2, e3⟩
                          · exact hfar.1 g (by rw [← e1]; exact e) hg
                          · have e : a8 = some ⟨g, 0, none⟩ := e
                            rw [e] at e1
                            cases e1
                            have z0 := hkp g hg
                            rw [k7 g (by rw [z0]; exact hg), z0] at e2
                            exact hg e2
                        · intro g e hg
                          rcases g10.at_ with e1 | ⟨g', e1, e2, e3⟩
                          · exact hfar.2 g (by rw [← e1]; exact e) hg
                          · have e : a10 = some ⟨g, 0, none⟩ := e
                            rw [e] at e1
                            cases e1
                            have z0 := hkp g hg
                            have z1 : M7 g = M6 g := by rw [k7 g (by rw [z0]; exact hg), z0]
                            have z2 : M8 g = M6 g := by rw [g8.keep g (by rw [z1]; exact hg) (fun g' e' => by rintro rfl; exact hfar.1 _ e' hg), z1]
                            rw [k9 g (by rw [z2]; exact hg), z2] at e2
                            exact hg e2
                      · refine ⟨by cbv <;> simp, by cbv <;> simp, by cbv, Mem.le_refl _⟩
                    · refine ok11.go 100 (by kernel_rfl) ?_
                      conv => cbv
                      refine ⟨fun t1 => ?_, fun t1 => ?_⟩
                      · replace t1 := of_decide_eq_true t1
                        try simp only [nc] at t1
                        try simp only [minF_t] at t1
                        try simp only [minF_f] at t1
                        try dsimp only at t1
                        refine .mk b o i ea rfl (by show i < n; omega) ?_
                        conv => cbv
                        refine .mk p.told.avs rfl rfl (AP.at_told hp) ?_
                        conv => cbv
                        refine .mk b o i ea rfl (by show i < n; omega) ?_
                        conv => cbv
                        refine .mk p.own.avs rfl rfl (AP.at_own hp) ?_
                        conv => cbv
                        refine hj ⟨p.told, p.own, -1, 0⟩ (by rw [oneT, if_pos (by omega)]; exact ⟨hak.told, hak.own, rfl, rfl, by simp [I64], by simp [I64]⟩) _ ?_
                        refine ⟨by cbv <;> simp, by cbv <;> simp, by cbv, Mem.le_refl _⟩
                      · replace t1 := of_decide_eq_false t1
                        try simp only [nc] at t1
                        try simp only [minF_t] at t1
                        try simp only [minF_f] at t1
                        try dsimp only at t1
                        refine hj p (by rw [oneT, if_neg (by omega)]; exact hak) _ ?_
                        refine ⟨by cbv <;> simp, by cbv <;> simp, by cbv, Mem.le_refl _⟩
                  · refine ok11.go 100 (by kernel_rfl) ?_
                    conv => cbv
                    refine ⟨fun t1 => ?_, fun t1 => ?_⟩
                    · replace t1 := of_decide_eq_true t1
                      try simp only [nc] at t1
                      try simp only [minF_t] at t1
                      try simp only [minF_f] at t1
                      try dsimp only at t1
                      refine .mk bc oc i eac rfl (by show i < on; omega) ?_
                      conv => cbv
                      refine .mk pc.avs rfl rfl hpc ?_
                      conv => cbv
                      refine hj ⟨p.own, pc, p.after, p.asked⟩ (by rw [oneO, if_pos (.inl (by omega))]; exact ⟨hak.own, hck, hak.after, hak.asked, hak.ia, hak.ik⟩) _ ?_
                      refine ⟨by cbv <;> simp, by cbv <;> simp, by cbv, Mem.le_refl _⟩
                    · replace t1 := of_decide_eq_false t1
                      try simp only [nc] at t1
                      try simp only [minF_t] at t1
                      try simp only [minF_f] at t1
                      try dsimp only at t1
                      refine .mk br or' i ear rfl (by show i < ra.1.acts.length; omega) ?_
                      conv => cbv
                      refine .mk (EA pr.asked) rfl (AP.at_asked hpr) ?_
                      conv => cbv
                      refine ⟨fun t2 => ?_, fun t2 => ?_⟩
                      · replace t2 := of_decide_eq_true t2
                        try simp only [nc] at t2
                        try simp only [minF_t] at t2
                        try simp only [minF_f] at t2
                        try dsimp only at t2
                        refine .mk bc oc i eac rfl (by show i < on; omega) ?_
                        conv => cbv
                        refine .mk pc.avs rfl rfl hpc ?_
                        conv => cbv
                        refine hj ⟨p.own, pc, p.after, p.asked⟩ (by rw [oneO, if_pos (.inr (by omega))]; exact ⟨hak.own, hck, hak.after, hak.asked, hak.ia, hak.ik⟩) _ ?_
                        refine ⟨by cbv <;> simp, by cbv <;> simp, by cbv, Mem.le_refl _⟩
                      · replace t2 := of_decide_eq_false t2
                        try simp only [nc] at t2
                        try simp only [minF_t] at t2
                        try simp only [minF_f] at t2
                        try dsimp only at t2
                        refine hj p (by rw [oneO, if_neg (by omega)]; exact hak) _ ?_
                        refine ⟨by cbv <;> simp, by cbv <;> simp, by cbv, Mem.le_refl _⟩
                · replace l1 := of_decide_eq_false l1
                  try simp only [nc] at l1
                  try simp only [minF_t] at l1
                  try simp only [minF_f] at l1
                  try dsimp only at l1
                  have hin : i = n := by omega
                  subst hin
                  have K7 := keep_trans K6 hkp
                  refine CallS.spec (open36_spec hw1.rd) rfl fun B7 M7 v7 hB7 hlt7 hk7 hn7 ⟨u7, ev7, aa7, ak7, qa7, qk7, eu7, ra7, rq7⟩ => ⟨.tup [MA aa7 (openR acc1).acts.length ak7 qa7 (openR acc1).log.length qk7, EA (meetC acc1 [])], rfl, (by rw [ev7, eu7]; rfl), ?_⟩
                  conv => cbv
                  have htold : meetC acc2 [] = 0 := told_ok e1 (by omega) hp2
                  have o2 : openR acc2 = ⟨acc2, []⟩ := by rw [openR, if_pos htold]
                  have s8 := open36_spec (hw2.rd.up ElA.up hk7.le)
                  rw [o2, htold] at s8
                  refine CallS.spec s8 rfl fun B8 M8 v8 hB8 hlt8 hk8 hn8 ⟨u8, ev8, aa8, ak8, qa8, qk8, eu8, ra8, rq8⟩ => ⟨.tup [MA aa8 acc2.length ak8 qa8 0 qk8, .int .i64 0], rfl, (by rw [ev8, eu8]; rfl), ?_⟩
                  have K8 := keep_trans K7 (keep_trans hk7.keep hk8.keep)
                  have ra7 := ra7.up ElA.up hk8.le
                  have rq7 := rq7.up ElQ.up hk8.le
                  have rq6' := rq6.up ElQ.up (le_of_keep (keep_trans hkp (keep_trans hk7.keep hk8.keep)))
                  conv => cbv
                  refine OKS.cut (κ := Unit) (fun _ => True) (fun _ => []) (fun _ => []) (fun _ => M8) ?_ fun hj => ?_
                  · intro _ _
                    refine ok11.go 100 (by kernel_rfl) ?_
                    conv => cbv
                    have hsim := runM_sim (F := fun j => (ra.1.acts.getD j act0).asked) pt_act pt_more q ⟨l, []⟩ ⟨acc2, []⟩ 0 rfl (by show l.length = acc2.length; omega) (fun j h1 h2 => by
                      have hz := (d5 j h1).2.2.2.2
                      have hz : l[j].asked = 0 := by simpa [cntL] using hz
                      refine ⟨by show 0 ≤ l[j].asked; omega, ?_⟩
                      show acc2[j] = l[j] ∨ _
                      rw [hp2 j h2 h1, oneT]
                      by_cases e : l[j].after = 0
                      · rw [if_pos e]
                        exact .inr ⟨e, by show (⟨l[j].told, l[j].own, -1, 0⟩ : ActV) = ⟨l[j].told, l[j].own, -1, l[j].asked⟩; rw [hz]⟩
                      · rw [if_neg e]
                        exact .inl rfl) (fun j hj' => by
                      simp only [hra] at hj' ⊢
                      rw [List.getD_eq_getElem?_getD, List.getElem?_eq_getElem hj']
                      exact Int.le_refl _)
                    have er := rR acc2 htold
                    obtain ⟨rc, hrc⟩ : ∃ rc, runM ⟨acc2, []⟩ q 0 = rc := ⟨_, rfl⟩
                    rw [hrc] at er hsim
                    rw [hra] at hsim
                    obtain ⟨sm1, sm2⟩ := hsim
                    have s9 := run_spec ra8 rq8 (hq.up ElQ.up (le_of_keep K8))
                    rw [show runR ⟨(⟨acc2, []⟩ : MtV).acts, (⟨acc2, []⟩ : MtV).log⟩ q = rc from er] at s9
                    refine CallS.spec s9 rfl fun B9 M9 v9 hB9 hlt9 hk9 hn9 ⟨u9, ev9, aa9, ak9, qa9, qk9, eu9, ra9, rq9⟩ => ⟨.tup [MA aa9 rc.1.acts.length ak9 qa9 rc.1.log.length qk9, EA (ra.2.1 : Nat), EA ra.2.2], rfl, (by rw [ev9, eu9, sm2]; rfl), ?_⟩
                    conv => cbv
                    refine CallS.pure (sameLogs_spec rq9 (rq6'.up ElQ.up hk9.le) (by rw [sm1]; omega)) rfl .tt rfl (by rw [decide_eq_true sm1]; rfl) ?_
                    conv => cbv
                    refine ⟨fun _ => ?_, fun x => absurd rfl (of_decide_eq_false x)⟩
                    refine hK.ground rfl (Keeps.of_keep (keep_trans K8 hk9.keep)) ?_
                    simp [AV.val, AV.den]
                  · refine ok11.go 100 (by kernel_rfl) ?_
                    conv => cbv
                    refine ⟨fun z1 => ?_, fun z1 => ?_⟩
                    · replace z1 := of_decide_eq_true z1
                      try simp only [nc] at z1
                      try simp only [minF_t] at z1
                      try simp only [minF_f] at z1
                      try dsimp only at z1
                      have o1 : openR acc1 = ⟨acc1, []⟩ := by rw [openR, if_pos z1]
                      rw [o1] at ra7 rq7
                      have hsim := runM_sim (F := fun j => (ra.1.acts.getD j act0).asked) po_act po_more q ⟨l, []⟩ ⟨acc1, []⟩ 0 rfl (by show l.length = acc1.length; omega) (fun j h1 h2 => by
                        have h1 : j < l.length := h1
                        have h2 : j < acc1.length := h2
                        show PO _ j l[j] acc1[j]
                        rw [hp1 j h2 h1 (by omega) (by omega), oneO]
                        by_cases e : l[j].after = -1 ∨ ra.1.acts[j].asked < l[j].after
                        · rw [if_pos e]
                          refine ⟨rfl, rfl, rfl, .inr ?_⟩
                          rcases e with e | e
                          · exact .inl e
                          · right
                            show (ra.1.acts.getD j act0).asked < l[j].after
                            rw [List.getD_eq_getElem?_getD, List.getElem?_eq_getElem (by omega)]
                            exact e
                        · rw [if_neg e]
                          exact ⟨rfl, rfl, rfl, .inl rfl⟩) (fun j hj' => by
                        simp only [hra] at hj' ⊢
                        rw [List.getD_eq_getElem?_getD, List.getElem?_eq_getElem hj']
                        exact Int.le_refl _)
                      have er := rR acc1 z1
                      obtain ⟨rc, hrc⟩ : ∃ rc, runM ⟨acc1, []⟩ q 0 = rc := ⟨_, rfl⟩
                      rw [hrc] at er hsim
                      rw [hra] at hsim
                      obtain ⟨sm1, sm2⟩ := hsim
                      have s9 := run_spec ra7 rq7 (hq.up ElQ.up (le_of_keep K8))
                      rw [show runR ⟨(⟨acc1, []⟩ : MtV).acts, (⟨acc1, []⟩ : MtV).log⟩ q = rc from er] at s9
                      refine CallS.spec s9 (by rw [o1]; rfl) fun B9 M9 v9 hB9 hlt9 hk9 hn9 ⟨u9, ev9, aa9, ak9, qa9, qk9, eu9, ra9, rq9⟩ => ⟨.tup [MA aa9 rc.1.acts.length ak9 qa9 rc.1.log.length qk9, EA (ra.2.1 : Nat), EA ra.2.2], rfl, (by rw [ev9, eu9, sm2]; rfl), ?_⟩
                      conv => cbv
                      refine CallS.pure (sameLogs_spec rq9 (rq6'.up ElQ.up hk9.le) (by rw [sm1]; omega)) rfl .tt rfl (by rw [decide_eq_true sm1]; rfl) ?_
                      conv => cbv
                      refine ⟨fun x => absurd rfl (of_decide_eq_true x), fun _ => ?_⟩
                      refine ⟨fun x => absurd rfl (of_decide_eq_true x), fun _ => ?_⟩
                      refine hj () trivial _ ⟨by cbv <;> simp, by cbv <;> simp, by cbv, hk9.le⟩
                    · refine hj () trivial _ ?_
                      refine ⟨by cbv <;> simp, by cbv <;> simp, by cbv, Mem.le_refl _⟩

end Go.SX
