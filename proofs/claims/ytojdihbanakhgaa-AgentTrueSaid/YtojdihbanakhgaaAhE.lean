/- Layer 36: copies of meetings. -/
import Derived.Test.YtojdihbanakhgaaAhD
import Derived.Test.YtojdihbanakhgaaAgZe
import Derived.Test.YtojdihbanakhgaaSxFn4
namespace Go.SX
open Go.Proofs.Try Go.Proofs

/-- A row of numbers that lies at or beyond B. -/
def DnsAt (B : Nat) (M : Mem) (d : Option Addr) (n : Nat) : Prop := n = 0 ∨ ∃ b cap xs, d = some ⟨b, 0, none⟩ ∧ B ≤ b ∧ M b = some (.row 3 cap xs) ∧ n ≤ xs.length

theorem DnsAt.up {B : Nat} {M M' : Mem} {d : Option Addr} {n : Nat} (hl : M.le M') (h : DnsAt B M d n) : DnsAt B M' d n :=
  h.imp_right fun ⟨b, cap, xs, e1, e2, e3, e4⟩ => by
    obtain ⟨f, k1, k2⟩ := hl b _ e3
    cases f with
    | obj o => exact k2.elim
    | row T N c =>
      obtain ⟨rfl, rfl, d, rfl⟩ := k2
      exact ⟨b, cap, _, e1, e2, k1, by rw [List.length_append]; omega⟩
theorem DnsAt.mono {B B' : Nat} {M : Mem} {d : Option Addr} {n : Nat} (hb : B' ≤ B) (h : DnsAt B M d n) : DnsAt B' M d n :=
  h.imp_right fun ⟨b, cap, xs, e1, e2, e3, e4⟩ => ⟨b, cap, xs, e1, Nat.le_trans hb e2, e3, e4⟩
theorem OwnL.dns {α : Type} {R : ElR α} {c : Ct} {M : Mem} {a : Option Addr} {n cap : Nat} {l : List α} (h : OwnL R c M 3 1 a n cap l) (hl : c.lent = noL) : DnsAt c.B0 M a n := by
  obtain ⟨_, cs, h1, _⟩ := h
  rcases h1.row with ⟨_, e2, _⟩ | ⟨g, e1, e2, e3, _, _⟩
  · exact .inl e2
  · refine .inr ⟨g, _, _, e1, ?_, e3, by have := h1.len; omega⟩
    rcases e2 with e2 | e2
    · exact e2
    · rw [hl] at e2; cases e2
def FreshP (B : Nat) (M : Mem) (ps : List AP) : Prop := ∀ p ∈ ps, DnsAt B M p.own.da p.own.dn
theorem FreshP.up {B : Nat} {M M' : Mem} {ps : List AP} (hl : M.le M') (h : FreshP B M ps) : FreshP B M' ps := fun p hp => (h p hp).up hl

/-- Actors in a row of one's own: what they hold lies elsewhere. -/
def RowAc (c : Ct) (M : Mem) (a : Option Addr) (n k : Nat) (acts : List ActV) : Prop :=
  n = acts.length ∧ ∃ (ps : List AP) (Mc : Mem), Own c M 97 8 a n k (ps.map AP.cells).flatten ∧ Mc.le M ∧ (∀ g, a = some ⟨g, 0, none⟩ → Mc g = none) ∧ All2 (fun p x => Ak Mc p x) ps acts ∧ FreshP c.B0 M ps

theorem RowAc.all {M : Mem} : ∀ {ps : List AP} {acts : List ActV}, All2 (fun p x => Ak M p x) ps acts → All2 (fun c x => c.length = 8 ∧ ElA M c x) (ps.map AP.cells) acts
  | [], [], _ => trivial
  | _ :: _, _ :: _, h => ⟨⟨rfl, _, rfl, h.1⟩, RowAc.all h.2⟩
  | [], _ :: _, h => h.elim
  | _ :: _, [], h => h.elim

theorem RowAc.rd {c : Ct} {M : Mem} {a : Option Addr} {n k : Nat} {acts : List ActV} (h : RowAc c M a n k acts) : RActs M a n k acts :=
  let ⟨h0, _, _, h1, h2, _, h4, _⟩ := h
  h1.rd rfl (RowAc.all (h4.mono fun _ _ hc => hc.up h2)) h0

theorem RowAc.keep {c : Ct} {M M' : Mem} {a : Option Addr} {n k : Nat} {acts : List ActV} (h : RowAc c M a n k acts) (hk : ∀ b, M b ≠ none → M' b = M b) : RowAc c M' a n k acts :=
  let ⟨h0, ps, Mc, h1, h2, h3, h4, h5⟩ := h
  ⟨h0, ps, Mc, h1.keep hk, Mem.le_trans h2 (le_of_keep hk), h3, h4, h5.up (le_of_keep hk)⟩

theorem RowAc.nil {c : Ct} {M : Mem} : RowAc c M none 0 0 [] := ⟨rfl, [], M, Own.nil .., Mem.le_refl _, (fun _ h => by cases h), trivial, fun _ h => by cases h⟩

/-- One actor more. -/
theorem append_actor {c : Ct} {M : Mem} {up : Bool} {p : Mem → AV → Prop} {a : Option Addr} {n k b : Nat} {acts : List ActV} {q : AP} {x : ActV} (h : RowAc c M a n k acts) (hb : CellsAt M b 0 q.cells) {M0 : Mem} (h0 : M0.le M) (hq : Ak M0 q x) (hdn : DnsAt c.B0 M q.own.da q.own.dn)
    (h0g : ∀ g, a = some ⟨g, 0, none⟩ → M0 g = none) (hn : n ≤ 1000) (hp : ∀ M' a' k', RowAc c M' a' (n + 1) k' (acts ++ [x]) → Grows c a a' M M' → p M' (SA a' (n + 1) k')) : AppS c up [22, 22] [SA a n k, SA (some ⟨b, 0, none⟩) 1 1] M p := by
  obtain ⟨e0, ps, Mc, h1, h2, h3, h4, h0f⟩ := h
  refine AppS.own (t := 22) (e := 97) (ti := ti22) (ei := ti97) rfl rfl rfl (by decide) rfl (x := SA a n k) (y := SA _ 1 1) rfl h1 rfl hb rfl (AP.one q) (by simp only [maxLen]; omega) (by show (n + 1) * 128 ≤ _; omega) fun M' a' k' h5 h6 => hp M' a' k' ⟨by simp [e0], ps ++ [q], ?_⟩ h6
  have hg : ∀ N : Mem, N.le M → (∀ g, a = some ⟨g, 0, none⟩ → N g = none) → ∀ g, a' = some ⟨g, 0, none⟩ → N g = none := fun N hN hNg g hga => by
    rcases h6.at_ with e | ⟨g', e, hg', _⟩
    · exact hNg g (by first | exact e.symm.trans hga | exact e.trans hga)
    · rw [hga] at e
      cases e
      exact none_le hN hg'
  rcases h5.row with ⟨_, hz, _⟩ | ⟨g, hga, _⟩
  · exact absurd hz (Nat.succ_ne_zero n)
  · refine ⟨M'.del' g, ?_, del_le' _ _, fun g' hg' => ?_, ?_, fun p hp => ?_⟩
    · rw [List.map_append, List.flatten_append]
      have h5' : Own c M' 97 8 a' (n + 1) k' ((ps.map AP.cells).flatten ++ q.cells) := h5
      simpa using h5'
    · rw [hga] at hg'
      cases hg'
      simp [Mem.del']
    · have l1 := le_del' (Mem.le_trans h2 h6.le) (hg Mc h2 h3 g hga)
      have l2 := le_del' (Mem.le_trans h0 h6.le) (hg M0 h0 h0g g hga)
      exact (h4.mono fun _ _ hc => hc.up l1).append (All2.one (hq.up l2))
    · rcases List.mem_append.1 hp with hp | hp
      · exact (h0f p hp).up h6.le
      · rw [List.mem_singleton] at hp
        subst hp
        exact hdn.up h6.le

/-- The row lies beyond what was there. -/
theorem RowAc.off {c : Ct} {M M0 : Mem} {a : Option Addr} {n k : Nat} {acts : List ActV} (h : RowAc c M a n k acts) (hl : c.lent = noL) (h0 : ∀ g, c.B0 ≤ g → M g ≠ none → M0 g = none) : ∀ g, a = some ⟨g, 0, none⟩ → M0 g = none := fun g hg => by
  obtain ⟨_, ps, Mc, r1, _, _, _⟩ := h
  rcases r1.row with ⟨e1, _, _⟩ | ⟨g', e1, e2, e3, _, _⟩
  · rw [hg] at e1; cases e1
  · rw [hg] at e1
    cases e1
    rcases e2 with e2 | e2
    · exact h0 g e2 (by rw [e3]; simp)
    · rw [hl] at e2; cases e2

theorem keep_row {c : Ct} {M M1 M2 : Mem} {a a' : Option Addr} {n k : Nat} {acts : List ActV} (hown : RowAc c M1 a n k acts) (hB : ∀ b, M b ≠ none → b < c.B0) (hl : c.lent = noL) (h : ∀ b, M b ≠ none → M1 b = M b) (hg : Grows c a a' M1 M2) : ∀ b, M b ≠ none → M2 b = M b := fun b hb => by
  have e1 := h b hb
  obtain ⟨_, _, _, r1, _⟩ := hown
  rw [hg.keep b (by rw [e1]; exact hb) ?_, e1]
  rintro g hga rfl
  rcases r1.row with ⟨e2, _⟩ | ⟨g', e2, e3, _⟩
  · rw [hga] at e2; cases e2
  · rw [hga] at e2
    cases e2
    rcases e3 with e3 | e3
    · have := hB b hb; omega
    · rw [hl] at e3; cases e3

set_option maxRecDepth 100000 in
theorem agTwin_spec {p : CP} {q : CakeV} {M : Mem} (h : Ck M p q) (hs1 : p.cn ≤ 1000000) (hs2 : p.dn ≤ 1000000) : Spec 101 #[p.val] M fun B M' v => ∃ p' : CP, v = p'.val ∧ Ck M' p' q ∧ DnsAt B M' p'.da p'.dn := by
  obtain ⟨len, ca, cn, ck, da, dn, dk⟩ := p
  obtain ⟨e1, hi, hc, hd⟩ := h
  simp only at e1 hc hd hs1 hs2
  subst e1
  refine ok101.spec 200 [.agg [EA q.len, SA ca cn ck, SA da dn dk]] rfl (by kernel_rfl) fun c K hK => ?_
  conv => cbv
  refine .mk trivial fun b1 M1 n1 B1 e1 => ?_
  have f1 : M1 = M.set b1 (.row 3 0 []) := e1
  have k1 : ∀ b, M b ≠ none → M1 b = M b := by rw [f1]; exact keep_set n1
  have o1 : OwnL (ElI .i64 I64) c M1 3 1 (some ⟨b1, 0, none⟩) 0 0 [] := OwnL.empty (by rw [f1]; simp [Mem.set]) B1
  conv => cbv
  refine AppS.list (t := 38) (ti := ti38) (ei := ti3) rfl rfl rfl (by decide) rfl (ElI.up _ _) ElI.one o1 (hc.up (ElI.up _ _) (le_of_keep k1)) (by simp only [maxLen]; omega) (by show (0 + cn) * 8 ≤ _; omega) fun M2 a2 c2 h2 g2 => ?_
  have k2 := keep_app k1 hK.lt hK.lent o1 g2
  have r2 : RI M2 a2 (0 + cn) c2 ([] ++ q.cuts) := h2.rd
  rw [List.nil_append] at r2
  conv => cbv
  refine .mk trivial fun b3 M3 n3 B3 e3 => ?_
  have f3 : M3 = M2.set b3 (.row 3 0 []) := e3
  have k3 : ∀ b, M2 b ≠ none → M3 b = M2 b := by rw [f3]; exact keep_set n3
  have o3 : OwnL (ElI .i64 I64) c M3 3 1 (some ⟨b3, 0, none⟩) 0 0 [] := OwnL.empty (by rw [f3]; simp [Mem.set]) B3
  have k03 := keep_trans k2 k3
  conv => cbv
  refine AppS.list (t := 38) (ti := ti38) (ei := ti3) rfl rfl rfl (by decide) rfl (ElI.up _ _) ElI.one o3 (hd.up (ElI.up _ _) (le_of_keep k03)) (by simp only [maxLen]; omega) (by show (0 + dn) * 8 ≤ _; omega) fun M4 a4 c4 h4 g4 => ?_
  have k4 := keep_app k03 hK.lt hK.lent o3 g4
  have r4 : RI M4 a4 (0 + dn) c4 ([] ++ q.dens) := h4.rd
  rw [List.nil_append] at r4
  conv => cbv
  refine hK.ground rfl (Keeps.of_keep k4) ⟨⟨q.len, a2, 0 + cn, c2, a4, 0 + dn, c4⟩, rfl, ⟨rfl, hi, (r2.up (ElI.up _ _) (le_of_keep k3)).up (ElI.up _ _) g4.le, r4⟩, h4.dns hK.lent⟩

end Go.SX
