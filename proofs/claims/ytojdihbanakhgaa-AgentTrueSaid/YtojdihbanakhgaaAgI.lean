/- Package cake: the walk over intervals. -/
import Derived.Test.YtojdihbanakhgaaAgH
namespace Go.SX
open Go.Proofs.Try Go.Proofs

/-! ### What Mark's visit does -/

structure MSt where
  v : R
  late : Int
  out : R

def visitC (from_ : R) (worth : R) (d : Int) (st : MSt) : Bool × MSt :=
  if d = 0 then (false, st)
  else if lessC worth st.v = true then
    (decide ((subR st.v worth).2 ≠ 0), ⟨(subR st.v worth).1, if (subR st.v worth).2 ≠ 0 then (subR st.v worth).2 else 6, st.out⟩)
  else if (divR st.v (R.of d)).2 = 0 then (true, ⟨st.v, (addR from_ (divR st.v (R.of d)).1).2, (addR from_ (divR st.v (R.of d)).1).1⟩)
  else (true, ⟨st.v, (divR st.v (R.of d)).2, st.out⟩)

structure MSt.Wf (st : MSt) : Prop where
  v : st.v.Wf
  late : I64 st.late
  out : st.out.Wf

theorem mkR_err (x : Bool) (n d : Nat) : 0 ≤ (mkR x n d).2 ∧ (mkR x n d).2 ≤ 18 := by unfold mkR; split <;> simp
theorem addR_err (a b : R) : 0 ≤ (addR a b).2 ∧ (addR a b).2 ≤ 18 := by unfold addR; split; exact mkR_err ..; simp
theorem subR_err (a b : R) : 0 ≤ (subR a b).2 ∧ (subR a b).2 ≤ 18 := by unfold subR; split; exact mkR_err ..; simp
theorem mulR_err (a b : R) : 0 ≤ (mulR a b).2 ∧ (mulR a b).2 ≤ 18 := by unfold mulR; split; exact mkR_err ..; simp
theorem divR_err (a b : R) : 0 ≤ (divR a b).2 ∧ (divR a b).2 ≤ 18 := by
  unfold divR
  split
  · split
    · simp
    · exact mkR_err ..
  · simp
theorem err_i64 {x : Int} (h : 0 ≤ x ∧ x ≤ 18) : I64 x := by simp only [I64]; omega

theorem visit_wf (from_ worth : R) (d : Int) {st : MSt} (h : st.Wf) : (visitC from_ worth d st).2.Wf := by
  unfold visitC
  split
  · exact h
  · split
    · refine ⟨subR_wf _ _, ?_, h.out⟩
      simp only
      split
      · exact err_i64 (subR_err _ _)
      · simp [I64]
    · split
      · exact ⟨h.v, err_i64 (addR_err _ _), addR_wf _ _⟩
      · exact ⟨h.v, err_i64 (divR_err _ _), h.out⟩

def walkL : List (Int × Int) → R → MSt → Int × MSt
  | [], _, st => (0, st)
  | (e, d) :: l, at_, st =>
    if lessC at_ (R.of e) = false then walkL l at_ st
    else if 0 < d ∧ (subR (R.of e) at_).2 ≠ 0 then ((subR (R.of e) at_).2, st)
    else if 0 < d ∧ (mulR (subR (R.of e) at_).1 (R.of d)).2 ≠ 0 then ((mulR (subR (R.of e) at_).1 (R.of d)).2, st)
    else
      let r := visitC at_ (if 0 < d then (mulR (subR (R.of e) at_).1 (R.of d)).1 else R.of 0) d st
      if r.1 then (0, r.2) else walkL l (R.of e) r.2

section
variable {sat_ en : R} {e d : Int} {l : List (Int × Int)} {st : MSt}
theorem walk_skip (hen : R.of e = en) (h : lessC sat_ en = false) : walkL ((e, d) :: l) sat_ st = walkL l sat_ st := by
  simp only [walkL, hen, if_pos h]
theorem walk_err1 (hen : R.of e = en) (h : ¬ lessC sat_ en = false) (hd : 0 < d) (h1 : (subR en sat_).2 ≠ 0) : walkL ((e, d) :: l) sat_ st = ((subR en sat_).2, st) := by
  simp only [walkL, hen]
  rw [if_neg h, if_pos ⟨hd, h1⟩]
theorem walk_err2 (hen : R.of e = en) (h : ¬ lessC sat_ en = false) (hd : 0 < d) (h1 : ¬ (subR en sat_).2 ≠ 0) (h2 : (mulR (subR en sat_).1 (R.of d)).2 ≠ 0) : walkL ((e, d) :: l) sat_ st = ((mulR (subR en sat_).1 (R.of d)).2, st) := by
  simp only [walkL, hen]
  rw [if_neg h, if_neg (fun k => h1 k.2), if_pos ⟨hd, h2⟩]
theorem walk_pos (hen : R.of e = en) (h : ¬ lessC sat_ en = false) (hd : 0 < d) (h1 : ¬ (subR en sat_).2 ≠ 0) (h2 : ¬ (mulR (subR en sat_).1 (R.of d)).2 ≠ 0) :
    walkL ((e, d) :: l) sat_ st = if (visitC sat_ (mulR (subR en sat_).1 (R.of d)).1 d st).1 then (0, (visitC sat_ (mulR (subR en sat_).1 (R.of d)).1 d st).2) else walkL l en (visitC sat_ (mulR (subR en sat_).1 (R.of d)).1 d st).2 := by
  simp only [walkL, hen, if_pos hd]
  rw [if_neg h, if_neg (fun k => h1 k.2), if_neg (fun k => h2 k.2)]
theorem walk_neg (hen : R.of e = en) (h : ¬ lessC sat_ en = false) (hd : ¬ 0 < d) :
    walkL ((e, d) :: l) sat_ st = if (visitC sat_ (R.of 0) d st).1 then (0, (visitC sat_ (R.of 0) d st).2) else walkL l en (visitC sat_ (R.of 0) d st).2 := by
  simp only [walkL, hen, if_neg hd]
  rw [if_neg h, if_neg (fun k => hd k.1), if_neg (fun k => hd k.1)]
end

/-- A ratio, a number, a ratio in three variables. -/
structure Cell3 (M : Mem) (bv bl bo : Nat) (st : MSt) : Prop where
  v : M bv = some (.obj (.cells [EV st.v.n, EV st.v.d].toArray 43 (0, 0)))
  late : M bl = some (.obj (.cells [EV st.late].toArray 27 (0, 0)))
  out : M bo = some (.obj (.cells [EV st.out.n, EV st.out.d].toArray 43 (0, 0)))

def L3 (bv bl bo : Nat) : Nat → Bool := fun b => b == bv || b == bl || b == bo

theorem CellsAt.obj {M : Mem} {b T : Nat} {cs : List Value} (h : M b = some (.obj (.cells cs.toArray T (0, 0)))) : CellsAt M b 0 cs :=
  CellsAt.of_get fun j v hj => by simp [Mem.cell, h, hj]

abbrev PA (b : Nat) : AV := .el (fun _ => b) (fun _ => 0)
abbrev PV (b : Nat) : Value := .pointer (some ⟨b, 0, none⟩)

section
variable {M : Mem} {bv bl bo : Nat} {st : MSt}

theorem L3.v : L3 bv bl bo bv = true := by simp [L3]
theorem L3.l : L3 bv bl bo bl = true := by simp [L3]
theorem L3.o : L3 bv bl bo bo = true := by simp [L3]

theorem Cell3.setV (h : Cell3 M bv bl bo st) (h1 : bv ≠ bl) (h2 : bv ≠ bo) (x : R) : Cell3 (M.set bv (.obj (.cells [EV x.n, EV x.d].toArray 43 (0, 0)))) bv bl bo ⟨x, st.late, st.out⟩ :=
  ⟨by simp [Mem.set], by simp [Mem.set, h1.symm, h.late], by simp [Mem.set, h2.symm, h.out]⟩
theorem Cell3.setL (h : Cell3 M bv bl bo st) (h1 : bv ≠ bl) (h3 : bl ≠ bo) (x : Int) : Cell3 (M.set bl (.obj (.cells [EV x].toArray 27 (0, 0)))) bv bl bo ⟨st.v, x, st.out⟩ :=
  ⟨by simp [Mem.set, h1, h.v], by simp [Mem.set], by simp [Mem.set, h3.symm, h.out]⟩
theorem Cell3.setO (h : Cell3 M bv bl bo st) (h2 : bv ≠ bo) (h3 : bl ≠ bo) (x : R) : Cell3 (M.set bo (.obj (.cells [EV x.n, EV x.d].toArray 43 (0, 0)))) bv bl bo ⟨st.v, st.late, x⟩ :=
  ⟨by simp [Mem.set, h2, h.v], by simp [Mem.set, h3, h.late], by simp [Mem.set]⟩
end

set_option maxRecDepth 100000 in
theorem visit_spec (from_ to_ worth : R) (d : Int) (hd : I64 d) (hf : from_.Wf) (_ht : to_.Wf) (hw : worth.Wf) {M : Mem} {bv bl bo : Nat} (h1 : bv ≠ bl) (h2 : bv ≠ bo) (h3 : bl ≠ bo) {st : MSt} (hst : st.Wf) (hc : Cell3 M bv bl bo st) :
    SpecU 81 #[RV from_, RV to_, RV worth, EV d, PV bv, PV bl, PV bo] M (L3 bv bl bo) (fun _ M' v => v = .bool (visitC from_ worth d st).1 ∧ Cell3 M' bv bl bo (visitC from_ worth d st).2) := by
  refine ok81.specU 300 [RA from_, RA to_, RA worth, EA d, PA bv, PA bl, PA bo] rfl (by kernel_rfl) fun c K hK => ?_
  have lv : c.lent bv = true := by rw [hK.lent]; exact L3.v
  have ll : c.lent bl = true := by rw [hK.lent]; exact L3.l
  have lo : c.lent bo = true := by rw [hK.lent]; exact L3.o
  have kp : ∀ {N : Mem} {b : Nat} {f : Frag}, Keeps (L3 bv bl bo) M N → L3 bv bl bo b = true → Keeps (L3 bv bl bo) M (N.set b f) := fun h hb => h.set (.inr hb)
  conv => cbv
  refine ⟨fun e1 => ?_, fun e1 => ?_⟩
  · replace e1 := of_decide_eq_true e1
    try simp only [nc] at e1
    try simp only [minF_t] at e1
    try simp only [minF_f] at e1
    try dsimp only at e1
    refine hK.ground rfl (Keeps.refl _ _) ?_
    simp only [visitC, if_pos e1]
    exact ⟨rfl, hc⟩
  · replace e1 := of_decide_eq_false e1
    try simp only [nc] at e1
    try simp only [minF_t] at e1
    try simp only [minF_f] at e1
    try dsimp only at e1
    refine .mk [EA st.v.n, EA st.v.d] rfl rfl (CellsAt.obj hc.v) ?_
    conv => cbv
    refine CallS.pure (less_spec worth st.v hw hst.v M) rfl (.sb fun _ => lessC worth st.v) rfl rfl ?_
    conv => cbv
    refine ⟨fun e2 => ?_, fun e2 => ?_⟩
    · replace e2 : lessC worth st.v = true := e2
      refine .mk [EA st.v.n, EA st.v.d] rfl rfl (CellsAt.obj hc.v) ?_
      conv => cbv
      refine CallS.pure (subR_spec st.v worth hst.v hw M) rfl (REA _) rfl rfl ?_
      conv => cbv
      obtain ⟨x, hx⟩ : ∃ x, subR st.v worth = x := ⟨_, rfl⟩
      rw [hx]
      refine .obj hc.v (.inr lv) (by simp) rfl ?_
      have c1 := hc.setV h1 h2 x.1
      conv => cbv
      refine .obj (M := M.set bv (.obj (.cells [EV x.1.n, EV x.1.d].toArray 43 (0, 0)))) c1.late (.inr ll) (by simp) rfl ?_
      have c2 := c1.setL h1 h3 6
      conv => cbv
      refine ⟨fun e3 => ?_, fun e3 => ?_⟩
      · replace e3 := of_decide_eq_true e3
        try simp only [nc] at e3
        try simp only [minF_t] at e3
        try simp only [minF_f] at e3
        try dsimp only at e3
        refine .obj c2.late (.inr ll) (by simp) rfl ?_
        have c3 := c2.setL h1 h3 x.2
        conv => cbv
        refine hK.ground rfl (kp (kp (kp (Keeps.refl _ _) L3.v) L3.l) L3.l) ?_
        rw [visitC, if_neg e1, if_pos e2, hx, if_pos e3]
        exact ⟨rfl, c3⟩
      · replace e3 := of_decide_eq_false e3
        try simp only [nc] at e3
        try simp only [minF_t] at e3
        try simp only [minF_f] at e3
        try dsimp only at e3
        refine hK.ground rfl (kp (kp (Keeps.refl _ _) L3.v) L3.l) ?_
        rw [visitC, if_neg e1, if_pos e2, hx, if_neg e3]
        exact ⟨rfl, c2⟩
    · replace e2 : lessC worth st.v = false := e2
      refine .mk [EA st.v.n, EA st.v.d] rfl rfl (CellsAt.obj hc.v) ?_
      conv => cbv
      refine CallS.pure (whole_spec d hd M) rfl (RA (R.of d)) rfl rfl ?_
      conv => cbv
      refine CallS.pure (div_spec st.v (R.of d) hst.v (of_wf hd) M) rfl (REA _) rfl rfl ?_
      conv => cbv
      obtain ⟨x, hx⟩ : ∃ x, divR st.v (R.of d) = x := ⟨_, rfl⟩
      have hxw : x.1.Wf := hx ▸ divR_wf _ _
      rw [hx]
      refine ⟨fun e3 => ?_, fun e3 => ?_⟩
      · replace e3 := of_decide_eq_true e3
        try simp only [nc] at e3
        try simp only [minF_t] at e3
        try simp only [minF_f] at e3
        try dsimp only at e3
        refine CallS.pure (add_spec from_ x.1 hf hxw M) rfl (REA _) rfl rfl ?_
        conv => cbv
        obtain ⟨y, hy⟩ : ∃ y, addR from_ x.1 = y := ⟨_, rfl⟩
        rw [hy]
        refine .obj hc.out (.inr lo) (by simp) rfl ?_
        have c1 := hc.setO h2 h3 y.1
        conv => cbv
        refine .obj c1.late (.inr ll) (by simp) rfl ?_
        have c2 := c1.setL h1 h3 y.2
        conv => cbv
        refine hK.ground rfl (kp (kp (Keeps.refl _ _) L3.o) L3.l) ?_
        rw [visitC, if_neg e1, if_neg (by rw [e2]; simp), hx, if_pos e3, hy]
        exact ⟨rfl, c2⟩
      · replace e3 := of_decide_eq_false e3
        try simp only [nc] at e3
        try simp only [minF_t] at e3
        try simp only [minF_f] at e3
        try dsimp only at e3
        refine .obj hc.late (.inr ll) (by simp) rfl ?_
        have c1 := hc.setL h1 h3 x.2
        conv => cbv
        refine hK.ground rfl (kp (Keeps.refl _ _) L3.l) ?_
        rw [visitC, if_neg e1, if_neg (by rw [e2]; simp), hx, if_neg e3]
        exact ⟨rfl, c1⟩


theorem Keeps.leC {L : Nat → Bool} {M M' Mc : Mem} (h : Keeps L M M') (hle : Mc.le M) (hd : ∀ b, Mc b ≠ none → L b = false) : Mc.le M' := fun b f hb => by
  obtain ⟨g, h1, h2⟩ := hle b f hb
  exact ⟨g, (h b (by rw [h1]; simp) (hd b (by rw [hb]; simp))).trans h1, h2⟩

theorem Ck.up {M M' : Mem} (h : M.le M') {q : CP} {c : CakeV} (hc : Ck M q c) : Ck M' q c :=
  ⟨hc.len, hc.i64, hc.cuts.up (ElI.up _ _) h, hc.dens.up (ElI.up _ _) h⟩

set_option maxHeartbeats 4000000 in
set_option maxRecDepth 100000 in
theorem walk_spec {q : CP} {c : CakeV} {M Mc : Mem} {bv bl bo : Nat} (h1 : bv ≠ bl) (h2 : bv ≠ bo) (h3 : bl ≠ bo) (hck : Ck Mc q c) (hle : Mc.le M) (hdis : ∀ b, Mc b ≠ none → L3 bv bl bo b = false) (g : Good c)
    (a : R) (ha : a.Wf) {st0 : MSt} (hst0 : st0.Wf) (hc0 : Cell3 M bv bl bo st0) :
    SpecU 80 (AV.vals [q.av, RA a, .clo (.func 81) [] [PA bv, PA bl, PA bo]]) M (L3 bv bl bo) (fun _ M' v => v = EV (walkL (pairs c) a st0).1 ∧ Cell3 M' bv bl bo (walkL (pairs c) a st0).2) := by
  obtain ⟨len, ca, cn, ck, da, dn, dk⟩ := q
  obtain ⟨e1, hi, hc, hd⟩ := hck
  simp only at e1 hc hd
  subst e1
  have hcn := hc.len
  have hdn := hd.len
  have g1 := g.n1
  have g2 := g.n2
  have g3 := g.n3
  refine ok80.specU 300 [.agg [EA c.len, SA ca cn ck, SA da dn dk], RA a, .clo (.func 81) [] [PA bv, PA bl, PA bo]] rfl (by kernel_rfl) fun c' K hK => ?_
  conv => cbv
  refine OKS.loopH (fun (p : Nat × R × MSt × Mem) => p.1 ≤ dn ∧ p.2.1.Wf ∧ p.2.2.1.Wf ∧ Cell3 p.2.2.2 bv bl bo p.2.2.1 ∧ Keeps (L3 bv bl bo) M p.2.2.2 ∧ walkL ((pairs c).drop p.1) p.2.1 p.2.2.1 = walkL (pairs c) a st0)
    (fun p => [(16, EA p.1)]) (fun p => [(4, .cells 43 [EA p.2.1.n, EA p.2.1.d]), (9, .none), (10, .none), (11, .none)]) (fun p => p.2.2.2) (fun p => dn - p.1) (0, a, st0, M) ⟨by simp, ha, hst0, hc0, Keeps.refl _ _, by simp⟩ ?_ ?_
  · refine ⟨by cbv <;> simp, by cbv <;> simp, by cbv, Mem.le_refl _⟩
  · intro ⟨i, sat_, st, Mi⟩ ⟨hi1, hat_, hst, hcell, hkp, hval⟩ ih
    simp only at hi1 hat_ hst hcell hkp hval
    have hcM : RI Mi ca cn ck c.cuts := hc.up (ElI.up _ _) (hkp.leC hle hdis)
    have hdM : RI Mi da dn dk c.dens := hd.up (ElI.up _ _) (hkp.leC hle hdis)
    refine ok80.go 100 (by kernel_rfl) ?_
    conv => cbv
    refine ⟨fun l1 => ?_, fun l1 => ?_⟩
    · replace l1 := of_decide_eq_true l1
      try simp only [nc] at l1
      try simp only [minF_t] at l1
      try simp only [minF_f] at l1
      try dsimp only at l1
      obtain ⟨b0, o0, ea0, hx, hxi⟩ := hdM.idx (i := i) (by omega)
      refine .mk b0 o0 i ea0 rfl (by show i < dn; omega) ?_
      conv => cbv
      refine .mk (EA c.dens[i]) rfl hx ?_
      conv => cbv
      refine .i64 ((i + 1 : Nat) : Int) (by show (i : Int) + 1 = _; omega) (by omega) (by omega) ?_
      conv => cbv
      obtain ⟨b1, o1, ea1, hx1, hxi1⟩ := hcM.idx (i := i + 1) (by omega)
      refine .mk b1 o1 (i + 1) ea1 rfl (by show i + 1 < cn; omega) ?_
      conv => cbv
      refine .mk (EA c.cuts[i + 1]) rfl hx1 ?_
      conv => cbv
      have hpr := pairs_drop g (i := i) (by omega)
      obtain ⟨en, ee⟩ : ∃ en, R.of c.cuts[i + 1] = en := ⟨_, rfl⟩
      have enw : en.Wf := ee ▸ of_wf hxi1
      refine CallS.pure (whole_spec c.cuts[i + 1] hxi1 Mi) rfl (RA en) rfl (congrArg RV ee.symm) ?_
      conv => cbv
      refine CallS.pure (less_spec sat_ en hat_ enw Mi) rfl (.sb fun _ => lessC sat_ en) rfl rfl ?_
      conv => cbv
      refine ⟨fun h4 => ?_, fun h4 => ?_⟩
      · replace h4 : (!lessC sat_ en) = true := h4
        have h4 : lessC sat_ en = false := by simpa using h4
        refine .i64 ((i + 1 : Nat) : Int) (by show (i : Int) + 1 = _; omega) (by omega) (by omega) ?_
        conv => cbv
        refine ih (i + 1, sat_, st, Mi) ⟨by simp only; omega, hat_, hst, hcell, hkp, ?_⟩ (by simp only; omega) _ ?_
        · simp only
          rw [← hval, hpr, walk_skip ee h4]
        · refine ⟨by cbv <;> simp, by cbv <;> simp, by cbv, Mem.le_refl _⟩
      · replace h4 : (!lessC sat_ en) = false := h4
        have h4 : ¬ lessC sat_ en = false := fun k => by rw [k] at h4; cases h4
        refine CallS.pure (whole_spec 0 (by simp [I64]) Mi) rfl (RA (R.of 0)) rfl rfl ?_
        conv => cbv
        refine ⟨fun h5 => ?_, fun h5 => ?_⟩
        · replace h5 := of_decide_eq_true h5
          try simp only [nc] at h5
          try simp only [minF_t] at h5
          try simp only [minF_f] at h5
          try dsimp only at h5
          refine CallS.pure (subR_spec en sat_ enw hat_ Mi) rfl (REA _) rfl rfl ?_
          conv => cbv
          refine ⟨fun h6 => ?_, fun h6 => ?_⟩
          · replace h6 := of_decide_eq_true h6
            try simp only [nc] at h6
            try simp only [minF_t] at h6
            try simp only [minF_f] at h6
            try dsimp only at h6
            refine hK.ground rfl hkp ?_
            rw [← hval, hpr, walk_err1 ee h4 h5 h6]
            exact ⟨rfl, hcell⟩
          · replace h6 := of_decide_eq_false h6
            try simp only [nc] at h6
            try simp only [minF_t] at h6
            try simp only [minF_f] at h6
            try dsimp only at h6
            refine CallS.pure (whole_spec c.dens[i] hxi Mi) rfl (RA (R.of c.dens[i])) rfl rfl ?_
            conv => cbv
            refine CallS.pure (mulR_spec (subR en sat_).1 (R.of c.dens[i]) (subR_wf _ _) (of_wf hxi) Mi) rfl (REA _) rfl rfl ?_
            conv => cbv
            refine ⟨fun h7 => ?_, fun h7 => ?_⟩
            · replace h7 := of_decide_eq_true h7
              try simp only [nc] at h7
              try simp only [minF_t] at h7
              try simp only [minF_f] at h7
              try dsimp only at h7
              refine hK.ground rfl hkp ?_
              rw [← hval, hpr, walk_err2 ee h4 h5 h6 h7]
              exact ⟨rfl, hcell⟩
            · replace h7 := of_decide_eq_false h7
              try simp only [nc] at h7
              try simp only [minF_t] at h7
              try simp only [minF_f] at h7
              try dsimp only at h7
              have hL : ∀ b, L3 bv bl bo b = true → Mi b ≠ none ∧ (c'.B0 ≤ b ∨ c'.lent b = true) := fun b hb => by
                refine ⟨?_, .inr (by rw [hK.lent]; exact hb)⟩
                simp only [L3, Bool.or_eq_true, beq_iff_eq] at hb
                rcases hb with (rfl | rfl) | rfl
                · rw [hcell.v]; simp
                · rw [hcell.late]; simp
                · rw [hcell.out]; simp
              refine CallS.specU (visit_spec sat_ en (mulR (subR en sat_).1 (R.of c.dens[i])).1 c.dens[i] hxi hat_ enw (mulR_wf _ _) h1 h2 h3 hst hcell) rfl hL (.inl rfl) fun B M' v hB hlt hkeep hnew hpost => ?_
              obtain ⟨rfl, hc'⟩ := hpost
              have hst' := visit_wf sat_ (mulR (subR en sat_).1 (R.of c.dens[i])).1 c.dens[i] hst
              obtain ⟨r', hr'⟩ : ∃ r', (visitC sat_ (mulR (subR en sat_).1 (R.of c.dens[i])).1 c.dens[i] st).1 = r' := ⟨_, rfl⟩
              obtain ⟨st', hs'⟩ : ∃ st', (visitC sat_ (mulR (subR en sat_).1 (R.of c.dens[i])).1 c.dens[i] st).2 = st' := ⟨_, rfl⟩
              rw [hs'] at hst' hc'
              rw [hr']
              refine ⟨.sb fun _ => r', rfl, rfl, ?_⟩
              conv => cbv
              refine ⟨fun hv => ?_, fun hv => ?_⟩
              · replace hv : r' = true := hv
                refine hK.ground rfl (hkp.trans hkeep) ?_
                rw [← hval, hpr]
                refine ⟨?_, ?_⟩
                · rw [walk_pos ee h4 h5 h6 h7, hr', hv]; rfl
                · rw [walk_pos ee h4 h5 h6 h7, hr', hv]; exact hs' ▸ hc'
              · replace hv : r' = false := hv
                refine .i64 ((i + 1 : Nat) : Int) (by show (i : Int) + 1 = _; omega) (by omega) (by omega) ?_
                conv => cbv
                refine ih (i + 1, en, st', M') ⟨by simp only; omega, enw, hst', hc', hkp.trans hkeep, ?_⟩ (by simp only; omega) _ ?_
                · simp only
                  rw [← hval, hpr, walk_pos ee h4 h5 h6 h7, hr', hv, hs']
                  rfl
                · refine ⟨by cbv <;> simp, by cbv <;> simp, by cbv, Mem.le_refl _⟩
        · replace h5 := of_decide_eq_false h5
          try simp only [nc] at h5
          try simp only [minF_t] at h5
          try simp only [minF_f] at h5
          try dsimp only at h5
          have hL : ∀ b, L3 bv bl bo b = true → Mi b ≠ none ∧ (c'.B0 ≤ b ∨ c'.lent b = true) := fun b hb => by
            refine ⟨?_, .inr (by rw [hK.lent]; exact hb)⟩
            simp only [L3, Bool.or_eq_true, beq_iff_eq] at hb
            rcases hb with (rfl | rfl) | rfl
            · rw [hcell.v]; simp
            · rw [hcell.late]; simp
            · rw [hcell.out]; simp
          refine CallS.specU (visit_spec sat_ en (R.of 0) c.dens[i] hxi hat_ enw (of_wf (by simp [I64])) h1 h2 h3 hst hcell) rfl hL (.inl rfl) fun B M' v hB hlt hkeep hnew hpost => ?_
          obtain ⟨rfl, hc'⟩ := hpost
          have hst' := visit_wf sat_ (R.of 0) c.dens[i] hst
          obtain ⟨r', hr'⟩ : ∃ r', (visitC sat_ (R.of 0) c.dens[i] st).1 = r' := ⟨_, rfl⟩
          obtain ⟨st', hs'⟩ : ∃ st', (visitC sat_ (R.of 0) c.dens[i] st).2 = st' := ⟨_, rfl⟩
          rw [hs'] at hst' hc'
          rw [hr']
          refine ⟨.sb fun _ => r', rfl, rfl, ?_⟩
          conv => cbv
          refine ⟨fun hv => ?_, fun hv => ?_⟩
          · replace hv : r' = true := hv
            refine hK.ground rfl (hkp.trans hkeep) ?_
            rw [← hval, hpr]
            refine ⟨?_, ?_⟩
            · rw [walk_neg ee h4 h5, hr', hv]; rfl
            · rw [walk_neg ee h4 h5, hr', hv]; exact hs' ▸ hc'
          · replace hv : r' = false := hv
            refine .i64 ((i + 1 : Nat) : Int) (by show (i : Int) + 1 = _; omega) (by omega) (by omega) ?_
            conv => cbv
            refine ih (i + 1, en, st', M') ⟨by simp only; omega, enw, hst', hc', hkp.trans hkeep, ?_⟩ (by simp only; omega) _ ?_
            · simp only
              rw [← hval, hpr, walk_neg ee h4 h5, hr', hv, hs']
              rfl
            · refine ⟨by cbv <;> simp, by cbv <;> simp, by cbv, Mem.le_refl _⟩
    · replace l1 := of_decide_eq_false l1
      try simp only [nc] at l1
      try simp only [minF_t] at l1
      try simp only [minF_f] at l1
      try dsimp only at l1
      have : i = dn := by omega
      subst this
      refine hK.ground rfl hkp ?_
      rw [← hval, List.drop_eq_nil_of_le (by rw [pairs_len g]; omega)]
      exact ⟨rfl, hcell⟩

end Go.SX
