/- Package ask: copies of cakes. -/
import Derived.Test.YtojdihbanakhgaaAgM
namespace Go.SX
open Go.Proofs.Try Go.Proofs

theorem keep_app {α : Type} {R : ElR α} {c : Ct} {M M1 M2 : Mem} {e sz : Nat} {a a' : Option Addr} {n cap : Nat} {l : List α} (h : ∀ b, M b ≠ none → M1 b = M b) (hB : ∀ b, M b ≠ none → b < c.B0) (hl : c.lent = noL)
    (hown : OwnL R c M1 e sz a n cap l) (hg : Grows c a a' M1 M2) : ∀ b, M b ≠ none → M2 b = M b := fun b hb => by
  have e1 := h b hb
  rw [hg.keep b (by rw [e1]; exact hb) ?_, e1]
  rintro g rfl rfl
  obtain ⟨_, cs, h1, _⟩ := hown
  rcases h1.row with ⟨h2, _⟩ | ⟨g, h2, h3, _⟩
  · cases h2
  · cases h2
    rcases h3 with h3 | h3
    · have := hB b hb; omega
    · rw [hl] at h3; cases h3

theorem Keeps.of_keep {M M' : Mem} (h : ∀ b, M b ≠ none → M' b = M b) : Keeps noL M M' := fun b hb _ => h b hb

set_option maxRecDepth 100000 in
theorem copied_spec {cs : List CakeV} {a : Option Addr} {n k : Nat} {M : Mem} (h : RC M a n k cs) (hs : cs.length ≤ 1000) (hsz : ∀ c ∈ cs, c.cuts.length ≤ 1000 ∧ c.dens.length ≤ 1000) :
    Spec 92 #[SV a n k] M fun _ M' v => ∃ a' k', v = SV a' n k' ∧ RC M' a' n k' cs := by
  have hn := h.len
  refine ok92.spec 200 [SA a n k] rfl (by kernel_rfl) fun c K hK => ?_
  conv => cbv
  refine OKS.loopH (fun (p : Nat × Mem × Option Addr × Nat) => p.1 ≤ n ∧ OwnL ElC c p.2.1 40 3 p.2.2.1 p.1 p.2.2.2 (cs.take p.1) ∧ ∀ b, M b ≠ none → p.2.1 b = M b)
    (fun p => [(3, SA p.2.2.1 p.1 p.2.2.2), (8, EA p.1)]) (fun _ => [(5, .none)]) (fun p => p.2.1) (fun p => n - p.1) (0, M, none, 0) ⟨by simp, OwnL.nil, fun _ _ => rfl⟩ ?_ ?_
  · refine ⟨by cbv <;> simp, by cbv <;> simp, by cbv, Mem.le_refl _⟩
  · intro ⟨i, Mi, a', k'⟩ ⟨hi1, hown, hkp⟩ ih
    simp only at hi1 hown hkp
    have hcM : RC Mi a n k cs := h.up ElC.up (le_of_keep hkp)
    refine ok92.go 100 (by kernel_rfl) ?_
    conv => cbv
    refine ⟨fun l1 => ?_, fun l1 => ?_⟩
    · replace l1 := of_decide_eq_true l1
      try simp only [nc] at l1
      try simp only [minF_t] at l1
      try simp only [minF_f] at l1
      try dsimp only at l1
      obtain ⟨b, o, p, ea, hp, hck⟩ := hcM.cake (i := i) (by omega)
      have hz := hsz _ (List.getElem_mem (show i < cs.length by omega))
      refine .mk b o i ea rfl (by show i < n; omega) ?_
      conv => cbv
      refine .mk p.avs rfl rfl hp ?_
      conv => cbv
      have z1 := hck.cuts.len
      have z2 := hck.dens.len
      refine CallS.spec (clone_spec hck.cuts (by omega)) rfl fun B1 M1 v1 hB1 hlt1 hk1 hn1 ⟨a1, k1, ev1, h1⟩ => ⟨SA a1 p.cn k1, rfl, ev1.symm, ?_⟩
      conv => cbv
      refine CallS.spec (clone_spec (hck.up hk1.le).dens (by omega)) rfl fun B2 M2 v2 hB2 hlt2 hk2 hn2 ⟨a2, k2, ev2, h2⟩ => ⟨SA a2 p.dn k2, rfl, ev2.symm, ?_⟩
      conv => cbv
      refine .mk trivial fun b3 M3 hn3 hB3 hM3 => ?_
      conv => cbv
      have hM3' : M3 = M2.set b3 (.row 40 3 (CP.cells ⟨p.len, a1, p.cn, k1, a2, p.dn, k2⟩)) := hM3
      have kp3 : ∀ b, M2 b ≠ none → M3 b = M2 b := by rw [hM3']; exact keep_set hn3
      have kpi : ∀ b, Mi b ≠ none → M3 b = Mi b := keep_trans hk1.keep (keep_trans hk2.keep kp3)
      have kp : ∀ b, M b ≠ none → M3 b = M b := keep_trans hkp kpi
      have hck3 : Ck M3 ⟨p.len, a1, p.cn, k1, a2, p.dn, k2⟩ cs[i] := ⟨hck.len, hck.i64, (h1.up (ElI.up _ _) hk2.le).up (ElI.up _ _) (le_of_keep kp3), h2.up (ElI.up _ _) (le_of_keep kp3)⟩
      have hown3 := hown.keep ElC.up kpi
      have hone : RC M3 (some ⟨b3, 0, none⟩) 1 1 [cs[i]] := RdL.one (fun _ _ _ => trivial) (CellsAt.new hM3') rfl ⟨_, rfl, hck3⟩ (by omega)
      refine AppS.list (t := 53) (ti := ti53) (ei := ti40) rfl rfl rfl (by decide) rfl ElC.up ElC.one hown3 hone (by simp only [maxLen]; omega) (by show (i + 1) * 56 ≤ _; omega) fun M4 a4 k4 h4 g4 => ?_
      conv => cbv
      refine .i64 ((i + 1 : Nat) : Int) (by show (i : Int) + 1 = _; omega) (by omega) (by omega) ?_
      conv => cbv
      rw [← take_snoc (show i < cs.length by omega)] at h4
      refine ih (i + 1, M4, a4, k4) ⟨by simp only; omega, h4, keep_app kp hK.lt hK.lent hown3 g4⟩ (by simp only; omega) _ ?_
      refine ⟨by cbv <;> simp, by cbv <;> simp, by cbv, Mem.le_refl _⟩
    · replace l1 := of_decide_eq_false l1
      try simp only [nc] at l1
      try simp only [minF_t] at l1
      try simp only [minF_f] at l1
      try dsimp only at l1
      have : i = cs.length := by omega
      subst this
      rw [List.take_length] at hown
      refine hK.ground rfl (Keeps.of_keep hkp) ⟨a', k', ?_, ?_⟩
      · simp only [AV.val, AV.den, hn]
      · rw [hn]; exact hown.rd

end Go.SX
