/- Law 4: the examples. -/
import Derived.Test.YtojdihbanakhgaaAgQa
namespace Go.SX
open Go.Proofs.Try Go.Proofs

def cake0 : CakeV := ⟨2, [0, 2], [1]⟩
def cake1 : CakeV := ⟨2, [0, 1, 2], [3, 1]⟩
def twoL : List CakeV := [cake0, cake1]

/-- Two cakes in a row of their own. -/
structure TwoAt (M : Mem) (b : Nat) (p0 p1 : CP) (x0 x1 : CakeV) : Prop where
  row : M b = some (.row 40 6 (p0.cells ++ p1.cells))
  cakes : ∃ Mc : Mem, Mc.le M ∧ Mc b = none ∧ Ck Mc p0 x0 ∧ Ck Mc p1 x1

section
variable {M M' : Mem} {b k : Nat} {p0 p1 : CP} {x0 x1 : CakeV}

theorem TwoAt.c0 (h : TwoAt M b p0 p1 x0 x1) : Ck M p0 x0 := let ⟨_, h1, _, h2, _⟩ := h.cakes; h2.up h1
theorem TwoAt.c1 (h : TwoAt M b p0 p1 x0 x1) : Ck M p1 x1 := let ⟨_, h1, _, _, h2⟩ := h.cakes; h2.up h1
theorem TwoAt.rc (h : TwoAt M b p0 p1 x0 x1) (hk : 2 ≤ k) : RC M (some ⟨b, 0, none⟩) 2 k [x0, x1] :=
  ⟨rfl, hk, (fun h => by cases h), [p0.cells, p1.cells], ⟨⟨rfl, p0, rfl, h.c0⟩, ⟨rfl, p1, rfl, h.c1⟩, trivial⟩, fun _ => ⟨b, 0, rfl, by simpa using CellsAt.row h.row⟩⟩
theorem TwoAt.at0 (h : TwoAt M b p0 p1 x0 x1) : CellsAt M b 0 p0.cells := (CellsAt.append.1 (CellsAt.row h.row)).1
theorem TwoAt.at1 (h : TwoAt M b p0 p1 x0 x1) : CellsAt M b 3 p1.cells := (CellsAt.append.1 (CellsAt.row h.row)).2
theorem TwoAt.set (h : TwoAt M b p0 p1 x0 x1) {q0 q1 : CP} {y0 y1 : CakeV} (hq : ∀ Mc : Mem, Mc.le M → Mc b = none → Ck Mc p0 x0 → Ck Mc p1 x1 → Ck Mc q0 y0 ∧ Ck Mc q1 y1) : TwoAt (M.set b (.row 40 6 (q0.cells ++ q1.cells))) b q0 q1 y0 y1 :=
  let ⟨Mc, h1, h2, h3, h4⟩ := h.cakes
  ⟨by simp [Mem.set], Mc, le_set_off h1 h2, h2, (hq Mc h1 h2 h3 h4).1, (hq Mc h1 h2 h3 h4).2⟩
end

theorem Mem.le_trans' {M M' M'' : Mem} (h : M.le M') (h' : M'.le M'') : M.le M'' := Mem.le_trans h h'

set_option maxRecDepth 100000 in
theorem two_spec (M : Mem) : Spec 32 #[] M fun B M' v => ∃ b p0 p1, B ≤ b ∧ v = SV (some ⟨b, 0, none⟩) 2 2 ∧ TwoAt M' b p0 p1 cake0 cake1 := by
  refine ok32.spec 200 [] rfl (by kernel_rfl) fun c K hK => ?_
  conv => cbv
  refine .mk trivial fun b1 M1 n1 B1 e1 => ?_
  conv => cbv
  refine .mk trivial fun b2 M2 n2 B2 e2 => ?_
  conv => cbv
  refine .mk trivial fun b3 M3 n3 B3 e3 => ?_
  conv => cbv
  refine .mk trivial fun b4 M4 n4 B4 e4 => ?_
  conv => cbv
  refine .mk trivial fun b5 M5 n5 B5 e5 => ?_
  conv => cbv
  have f1 : M1 = M.set b1 (.row 3 2 ([0, 2].map EV)) := e1
  have f2 : M2 = M1.set b2 (.row 3 1 ([1].map EV)) := e2
  have f3 : M3 = M2.set b3 (.row 3 3 ([0, 1, 2].map EV)) := e3
  have f4 : M4 = M3.set b4 (.row 3 2 ([3, 1].map EV)) := e4
  have f5 : M5 = M4.set b5 (.row 40 6 (CP.cells ⟨2, some ⟨b1, 0, none⟩, 2, 2, some ⟨b2, 0, none⟩, 1, 1⟩ ++ CP.cells ⟨2, some ⟨b3, 0, none⟩, 3, 3, some ⟨b4, 0, none⟩, 2, 2⟩)) := e5
  have k1 : ∀ b, M b ≠ none → M1 b = M b := by rw [f1]; exact keep_set n1
  have k2 : ∀ b, M1 b ≠ none → M2 b = M1 b := by rw [f2]; exact keep_set n2
  have k3 : ∀ b, M2 b ≠ none → M3 b = M2 b := by rw [f3]; exact keep_set n3
  have k4 : ∀ b, M3 b ≠ none → M4 b = M3 b := by rw [f4]; exact keep_set n4
  have k5 : ∀ b, M4 b ≠ none → M5 b = M4 b := by rw [f5]; exact keep_set n5
  have l1 : M1.le M4 := le_of_keep (keep_trans k2 (keep_trans k3 k4))
  have l2 : M2.le M4 := le_of_keep (keep_trans k3 k4)
  have l3 : M3.le M4 := le_of_keep k4
  have r1 : RI M1 (some ⟨b1, 0, none⟩) 2 2 [0, 2] := RI.new (l := [0, 2]) (by rw [f1]; exact set_self ..) (by simp [I64]) (by simp)
  have r2 : RI M2 (some ⟨b2, 0, none⟩) 1 1 [1] := RI.new (l := [1]) (by rw [f2]; exact set_self ..) (by simp [I64]) (by simp)
  have r3 : RI M3 (some ⟨b3, 0, none⟩) 3 3 [0, 1, 2] := RI.new (l := [0, 1, 2]) (by rw [f3]; exact set_self ..) (by simp [I64]) (by simp)
  have r4 : RI M4 (some ⟨b4, 0, none⟩) 2 2 [3, 1] := RI.new (l := [3, 1]) (by rw [f4]; exact set_self ..) (by simp [I64]) (by simp)
  refine hK.ground rfl (Keeps.of_keep (keep_trans k1 (keep_trans k2 (keep_trans k3 (keep_trans k4 k5))))) ⟨b5, ⟨2, some ⟨b1, 0, none⟩, 2, 2, some ⟨b2, 0, none⟩, 1, 1⟩, ⟨2, some ⟨b3, 0, none⟩, 3, 3, some ⟨b4, 0, none⟩, 2, 2⟩, B5, rfl, ?_, M4, le_of_keep k5, n5, ?_, ?_⟩
  · show M5 b5 = _
    rw [f5]; exact set_self ..
  · exact ⟨rfl, by simp [cake0, I64], r1.up (ElI.up _ _) l1, r2.up (ElI.up _ _) l2⟩
  · exact ⟨rfl, by simp [cake1, I64], r3.up (ElI.up _ _) l3, r4⟩

theorem of4_spec (n : Int) (_h : I64 n) (M : Mem) : Pure1 34 #[EV n] M (RV (R.of n)) := by
  refine ok34.pure 200 [EA n] rfl (by kernel_rfl) fun c K hK => ?_
  conv => cbv
  refine hK.pure rfl (Mem.le_refl _) ?_
  rfl

theorem TwoAt.up {M M' : Mem} {b : Nat} {p0 p1 : CP} {x0 x1 : CakeV} (h : TwoAt M b p0 p1 x0 x1) (hk : ∀ b, M b ≠ none → M' b = M b) : TwoAt M' b p0 p1 x0 x1 :=
  let ⟨Mc, h1, h2, h3, h4⟩ := h.cakes
  ⟨by rw [hk b (by rw [h.row]; simp)]; exact h.row, Mc, Mem.le_trans h1 (le_of_keep hk), h2, h3, h4⟩

theorem ev_desk : deskC twoL 0 = 0 := by decide +kernel
theorem ev_t0 : totalA twoL 0 0 = (2, 0) := by decide +kernel
theorem ev_t1 : totalA twoL 0 1 = (4, 0) := by decide +kernel
theorem ev_m0 : askC markC twoL 0 0 (R.of 0) (R.of 1) = (R.of 1, 0) := by decide +kernel
theorem ev_m1 : askC markC twoL 1 1 (R.of 0) (R.of 1) = (⟨1, 3⟩, 0) := by decide +kernel
def logB : List QV := [⟨0, 2, R.of 0, R.of 1, R.of 1⟩, ⟨1, 2, R.of 0, R.of 1, ⟨1, 3⟩⟩]
theorem ev_rep : replayC twoL logB = (2, 0) := by decide +kernel
theorem ev_back : replayC [cake1, cake0] logB = (0, 0) := by decide +kernel
theorem ev_c0 : countC logB 0 = 1 := by decide +kernel
theorem ev_c1 : countC logB 1 = 1 := by decide +kernel

set_option maxHeartbeats 1000000 in
set_option maxRecDepth 100000 in
theorem alive4_spec (M : Mem) : Spec 40 #[] M fun _ _ v => v = .bool true := by
  refine ok40.spec 400 [] rfl (by kernel_rfl) fun c K hK => ?_
  conv => cbv
  refine CallS.spec (two_spec M) rfl fun B1 M1 v1 hB1 hlt1 hk1 hn1 ⟨b1, p0, p1, hb1, ev1, ht1⟩ => ⟨SA (some ⟨b1, 0, none⟩) 2 2, rfl, ev1.symm, ?_⟩
  conv => cbv
  have hr1 : RC M1 (some ⟨b1, 0, none⟩) 2 2 twoL := ht1.rc (Nat.le_refl _)
  refine CallS.spec (askOpen_spec hr1) rfl fun B2 M2 v2 hB2 hlt2 hk2 hn2 ⟨ca, cn, ck, ev2, h2⟩ => ⟨.tup [DA ca cn ck none 0 0, .int .i64 0], rfl, (by rw [ev2, ev_desk]; rfl), ?_⟩
  rw [if_pos ev_desk] at h2
  conv => cbv
  refine CallS.pure (askTotal_spec (qa := none) (qn := 0) (qk := 0) h2 0) rfl (.tup [.int .i64 2, .int .i64 0]) rfl (by rw [ev_t0]; rfl) ?_
  conv => cbv
  refine CallS.pure (askTotal_spec (qa := none) (qn := 0) (qk := 0) h2 1) rfl (.tup [.int .i64 4, .int .i64 0]) rfl (by rw [ev_t1]; rfl) ?_
  conv => cbv
  refine CallS.pure (of4_spec 0 (by simp [I64]) M2) rfl (.agg [.int .i64 0, .int .i64 1]) rfl rfl ?_
  conv => cbv
  refine CallS.pure (of4_spec 1 (by simp [I64]) M2) rfl (.agg [.int .i64 1, .int .i64 1]) rfl rfl ?_
  conv => cbv
  refine CallS.spec (askMark_spec h2 (RdL.nil' ..) 0 (by simp [I64]) (R.of 0) (R.of 1) (of_wf' 0 (by omega)) (of_wf' 1 (by omega))) rfl fun B3 M3 v3 hB3 hlt3 hk3 hn3 post => ?_
  rw [ev_m0] at post
  obtain ⟨ca3, cn3, ck3, qa3, qn3, qk3, ev3, h3, l3⟩ := post.ok
  refine ⟨.tup [DA ca3 cn3 ck3 qa3 qn3 qk3, .agg [.int .i64 1, .int .i64 1], .int .i64 0], rfl, ev3.symm, ?_⟩
  conv => cbv
  refine CallS.pure (of4_spec 0 (by simp [I64]) M3) rfl (.agg [.int .i64 0, .int .i64 1]) rfl rfl ?_
  conv => cbv
  refine CallS.pure (of4_spec 1 (by simp [I64]) M3) rfl (.agg [.int .i64 1, .int .i64 1]) rfl rfl ?_
  conv => cbv
  have hq3 := l3.len
  simp at hq3
  subst hq3
  refine CallS.spec (askMark_spec h3 l3 1 (by simp [I64]) (R.of 0) (R.of 1) (of_wf' 0 (by omega)) (of_wf' 1 (by omega))) rfl fun B4 M4 v4 hB4 hlt4 hk4 hn4 post => ?_
  rw [ev_m1] at post
  obtain ⟨ca4, cn4, ck4, qa4, qn4, qk4, ev4, h4, l4⟩ := post.ok
  refine ⟨.tup [DA ca4 cn4 ck4 qa4 qn4 qk4, .agg [.int .i64 1, .int .i64 3], .int .i64 0], rfl, ev4.symm, ?_⟩
  have l4 : RQ M4 qa4 qn4 qk4 logB := l4
  have hq4 : qn4 = 2 := l4.len
  subst hq4
  conv => cbv
  refine CallS.spec (two_spec M4) rfl fun B5 M5 v5 hB5 hlt5 hk5 hn5 ⟨b5, p50, p51, hb5, ev5, ht5⟩ => ⟨SA (some ⟨b5, 0, none⟩) 2 2, rfl, ev5.symm, ?_⟩
  conv => cbv
  have hr5 : RC M5 (some ⟨b5, 0, none⟩) 2 2 twoL := ht5.rc (Nat.le_refl _)
  refine CallS.pure (replay_spec hr5 (l4.up ElQ.up hk5.le)) rfl (.tup [.int .i64 2, .int .i64 0]) rfl (by rw [ev_rep]; rfl) ?_
  conv => cbv
  refine CallS.spec (two_spec M5) rfl fun B6 M6 v6 hB6 hlt6 hk6 hn6 ⟨b6, p60, p61, hb6, ev6, ht6⟩ => ⟨SA (some ⟨b6, 0, none⟩) 2 2, rfl, ev6.symm, ?_⟩
  conv => cbv
  refine .mk b6 0 1 rfl rfl (by decide) ?_
  conv => cbv
  refine .mk p61.avs rfl rfl ht6.at1 ?_
  conv => cbv
  refine .mk b6 0 0 rfl rfl (by decide) ?_
  conv => cbv
  refine .mk p60.avs rfl rfl ht6.at0 ?_
  conv => cbv
  refine .mk b6 0 0 rfl rfl (by decide) ?_
  conv => cbv
  refine .row ht6.row (.inl (Nat.le_trans hB6 hb6)) (by simp) rfl ?_
  have ht7 : TwoAt (M6.set b6 (.row 40 6 (p61.cells ++ p61.cells))) b6 p61 p61 cake1 cake1 := ht6.set fun Mc _ _ q0 q1 => ⟨q1, q1⟩
  conv => cbv
  refine .mk b6 0 1 rfl rfl (by decide) ?_
  conv => cbv
  refine .row ht7.row (.inl (Nat.le_trans hB6 hb6)) (by simp) rfl ?_
  have ht8 : TwoAt ((M6.set b6 (.row 40 6 (p61.cells ++ p61.cells))).set b6 (.row 40 6 (p61.cells ++ p60.cells))) b6 p61 p60 cake1 cake0 := by
    obtain ⟨Mc, q1, q2, q3, q4⟩ := ht6.cakes
    exact ⟨set_self .., Mc, le_set_off (le_set_off q1 q2) q2, q2, q4, q3⟩
  have hkM : ∀ b, M b ≠ none → M6 b = M b := keep_trans hk1.keep (keep_trans hk2.keep (keep_trans hk3.keep (keep_trans hk4.keep (keep_trans hk5.keep hk6.keep))))
  have n56 : M5 b6 = none := by
    cases hc : M5 b6 with
    | none => rfl
    | some f => have := hlt6 b6 (by rw [hc]; simp); omega
  have le58 : M5.le ((M6.set b6 (.row 40 6 (p61.cells ++ p61.cells))).set b6 (.row 40 6 (p61.cells ++ p60.cells))) := le_set_off (le_set_off hk6.le n56) n56
  have kp8 : ∀ b, M b ≠ none → ((M6.set b6 (.row 40 6 (p61.cells ++ p61.cells))).set b6 (.row 40 6 (p61.cells ++ p60.cells))) b = M b := fun b hb => by
    have e6 := hkM b hb
    have hne : b ≠ b6 := fun e => by
      subst e
      have e5 := keep_trans hk1.keep (keep_trans hk2.keep (keep_trans hk3.keep (keep_trans hk4.keep hk5.keep))) b hb
      rw [n56] at e5
      exact hb e5.symm
    simp [Mem.set, hne, e6]
  have hl8 := (l4.up ElQ.up hk5.le).up ElQ.up le58
  conv => cbv
  refine CallS.pure (replay_spec (ht8.rc (Nat.le_refl _)) hl8) rfl (.tup [.int .i64 0, .int .i64 0]) rfl (by rw [ev_back]; rfl) ?_
  conv => cbv
  refine CallS.pure (of4_spec 1 (by simp [I64]) _) rfl (.agg [.int .i64 1, .int .i64 1]) rfl rfl ?_
  conv => cbv
  refine ⟨fun _ => ?_, fun h => absurd h (by decide)⟩
  refine .mk ?_
  conv => cbv
  refine CallS.pure (count_spec hl8 (by omega) 0) rfl (.int .i64 1) rfl (by rw [ev_c0]; rfl) ?_
  conv => cbv
  refine CallS.pure (count_spec hl8 (by omega) 1) rfl (.int .i64 1) rfl (by rw [ev_c1]; rfl) ?_
  conv => cbv
  exact hK.ground rfl (Keeps.of_keep kp8) rfl

end Go.SX
