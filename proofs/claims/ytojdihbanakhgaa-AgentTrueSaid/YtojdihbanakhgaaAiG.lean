/- Reference of cakes: the value. -/
import Derived.Test.YtojdihbanakhgaaRatioB
import Derived.Test.YtojdihbanakhgaaAgT
namespace Go.SX
open Go.Proofs.Try Go.Proofs

theorem point02_spec (len : Int) (p : R) (hl : I64 len) (hl2 : len.natAbs ≤ 1000000000000000000) (hp : p.Wf) (M : Mem) : Pure1 112 #[EV len, RV p] M (.bool (pointC len p)) := by
  refine ok112.pure 200 [EA len, RA p] rfl (by kernel_rfl) fun c K hK => ?_
  conv => cbv
  refine CallS.pure (check01_spec p hp M) rfl (EA (okE p)) rfl rfl ?_
  conv => cbv
  refine ⟨fun t1 => ?_, fun t1 => ?_⟩
  · replace t1 := of_decide_eq_true t1
    try simp only [nc] at t1
    try simp only [minF_t] at t1
    try simp only [minF_f] at t1
    try dsimp only at t1
    have t1 : p.ok = true := by
      unfold okE at t1
      split at t1
      · assumption
      · exact absurd t1 (by decide)
    refine ⟨fun t2 => ?_, fun t2 => ?_⟩
    · replace t2 := of_decide_eq_true t2
      try simp only [nc] at t2
      try simp only [minF_t] at t2
      try simp only [minF_f] at t2
      try dsimp only at t2
      refine CallS.pure (of60_spec len hl M) rfl (RA (R.of len)) rfl rfl ?_
      conv => cbv
      refine CallS.pure (less01_spec (R.of len) p (of_ok hl2) t1 M) rfl (.sb fun _ => ltR (R.of len) p) rfl rfl ?_
      conv => cbv
      refine hK.pure rfl (Mem.le_refl _) ?_
      simp only [pointC, t1, decide_eq_true t2, Bool.true_and, lessC_eq (of_ok hl2) t1]
      rfl
    · replace t2 := of_decide_eq_false t2
      try simp only [nc] at t2
      try simp only [minF_t] at t2
      try simp only [minF_f] at t2
      try dsimp only at t2
      refine hK.pure rfl (Mem.le_refl _) ?_
      simp only [pointC, decide_eq_false t2, Bool.and_false, Bool.false_and]
      rfl
  · replace t1 := of_decide_eq_false t1
    try simp only [nc] at t1
    try simp only [minF_t] at t1
    try simp only [minF_f] at t1
    try dsimp only at t1
    have t1 : p.ok = false := by
      unfold okE at t1
      split at t1
      · exact absurd rfl t1
      · simpa using ‹¬ p.ok = true›
    refine hK.pure rfl (Mem.le_refl _) ?_
    simp only [pointC, t1, Bool.false_and]
    rfl

theorem later_spec (a b : R) (ha : a.ok = true) (hb : b.ok = true) (M : Mem) : Pure1 117 #[RV a, RV b] M (RV (laterR a b)) := by
  refine ok117.pure 200 [RA a, RA b] rfl (by kernel_rfl) fun c K hK => ?_
  conv => cbv
  refine CallS.pure (less01_spec a b ha hb M) rfl (.sb fun _ => ltR a b) rfl rfl ?_
  conv => cbv
  refine ⟨fun t => ?_, fun t => ?_⟩
  · replace t : ltR a b = true := t
    refine hK.pure rfl (Mem.le_refl _) ?_
    rw [laterR, if_pos t]
    rfl
  · replace t : ltR a b = false := t
    refine hK.pure rfl (Mem.le_refl _) ?_
    rw [laterR, if_neg (by rw [t]; simp)]
    rfl

theorem sooner_spec (a b : R) (ha : a.ok = true) (hb : b.ok = true) (M : Mem) : Pure1 127 #[RV a, RV b] M (RV (soonerR a b)) := by
  refine ok127.pure 200 [RA a, RA b] rfl (by kernel_rfl) fun c K hK => ?_
  conv => cbv
  refine CallS.pure (less01_spec a b ha hb M) rfl (.sb fun _ => ltR a b) rfl rfl ?_
  conv => cbv
  refine ⟨fun t => ?_, fun t => ?_⟩
  · replace t : ltR a b = true := t
    refine hK.pure rfl (Mem.le_refl _) ?_
    rw [soonerR, if_pos t]
    rfl
  · replace t : ltR a b = false := t
    refine hK.pure rfl (Mem.le_refl _) ?_
    rw [soonerR, if_neg (by rw [t]; simp)]
    rfl

def worthR (c0 c1 d : Int) (a b : R) : R × Int :=
  if ltR (laterR a (R.of c0)) (soonerR b (R.of c1)) = false ∨ d = 0 then (R.of 0, 0)
  else if (subR (soonerR b (R.of c1)) (laterR a (R.of c0))).2 ≠ 0 then (R.zero, (subR (soonerR b (R.of c1)) (laterR a (R.of c0))).2)
  else mulR (subR (soonerR b (R.of c1)) (laterR a (R.of c0))).1 (R.of d)

theorem worthR_wf (c0 c1 d : Int) (a b : R) : (worthR c0 c1 d a b).1.Wf := by
  unfold worthR
  repeat' split
  · exact of_wf (by simp [I64])
  · exact zeroR_wf
  · exact mulR_wf _ _

set_option maxRecDepth 100000 in
theorem worth_spec {q : CP} {c : CakeV} {M : Mem} (h : Ck M q c) (g : Good c) {i : Nat} (hi : i < c.dens.length) (a b : R) (ha : a.ok = true) (hb : b.ok = true) :
    Pure1 114 #[q.val, EV (i : Nat), RV a, RV b] M (RE (worthR (c.cuts[i]'(by have := g.n3; omega)) (c.cuts[i + 1]'(by have := g.n3; omega)) c.dens[i] a b)) := by
  obtain ⟨len, ca, cn, ck, da, dn, dk⟩ := q
  obtain ⟨e1, hl, hc, hd⟩ := h
  simp only at e1 hc hd
  subst e1
  have hcn := hc.len
  have hdn := hd.len
  have g1 := g.n3
  have g2 := g.n2
  have g3 := g.l2
  have b0 := g.cut (i := i) (by omega)
  have b1 := g.cut (i := i + 1) (by omega)
  have bd := g.dens _ (List.getElem_mem hi)
  obtain ⟨c0, hc0⟩ : ∃ c0, c.cuts[i]'(by omega) = c0 := ⟨_, rfl⟩
  obtain ⟨c1, hc1⟩ : ∃ c1, c.cuts[i + 1]'(by omega) = c1 := ⟨_, rfl⟩
  obtain ⟨d, hdd⟩ : ∃ d, c.dens[i] = d := ⟨_, rfl⟩
  obtain ⟨bx0, o0, ea0, hx0, w0⟩ := hc.idx (i := i) (by omega)
  obtain ⟨bx1, o1, ea1, hx1, w1⟩ := hc.idx (i := i + 1) (by omega)
  obtain ⟨bx2, o2, ea2, hx2, w2⟩ := hd.idx (i := i) hi
  rw [hc0] at b0 hx0 w0 ⊢
  rw [hc1] at b1 hx1 w1 ⊢
  rw [hdd] at bd hx2 w2 ⊢
  have k0 := of_ok (n := c0) (by omega)
  have k1 := of_ok (n := c1) (by omega)
  have kd := of_ok (n := d) (by omega)
  obtain ⟨from_, hf⟩ : ∃ x, laterR a (R.of c0) = x := ⟨_, rfl⟩
  obtain ⟨to, ht⟩ : ∃ x, soonerR b (R.of c1) = x := ⟨_, rfl⟩
  have kf : from_.ok = true := hf ▸ laterR_ok ha k0
  have kt : to.ok = true := ht ▸ soonerR_ok hb k1
  unfold worthR
  rw [hf, ht]
  refine ok114.pure 200 [.agg [EA c.len, SA ca cn ck, SA da dn dk], EA (i : Nat), RA a, RA b] rfl (by kernel_rfl) fun c' K hK => ?_
  conv => cbv
  refine .mk bx0 o0 i ea0 rfl (by show i < cn; omega) ?_
  conv => cbv
  refine .mk (EA c0) rfl hx0 ?_
  conv => cbv
  refine .i64 ((i + 1 : Nat) : Int) (by show (i : Int) + 1 = _; omega) (by omega) (by omega) ?_
  conv => cbv
  refine .mk bx1 o1 (i + 1) ea1 rfl (by show i + 1 < cn; omega) ?_
  conv => cbv
  refine .mk (EA c1) rfl hx1 ?_
  conv => cbv
  refine CallS.pure (of60_spec c0 w0 M) rfl (RA (R.of c0)) rfl rfl ?_
  conv => cbv
  refine CallS.pure (later_spec a (R.of c0) ha k0 M) rfl (RA from_) rfl (by rw [hf]; rfl) ?_
  conv => cbv
  refine CallS.pure (of60_spec c1 w1 M) rfl (RA (R.of c1)) rfl rfl ?_
  conv => cbv
  refine CallS.pure (sooner_spec b (R.of c1) hb k1 M) rfl (RA to) rfl (by rw [ht]; rfl) ?_
  conv => cbv
  refine CallS.pure (less01_spec from_ to kf kt M) rfl (.sb fun _ => ltR from_ to) rfl rfl ?_
  conv => cbv
  refine ⟨fun t => ?_, fun t => ?_⟩
  · replace t : (!ltR from_ to) = true := t
    have t : ltR from_ to = false := by simpa using t
    refine hK.pure rfl (Mem.le_refl _) ?_
    rw [if_pos (.inl t)]
    rfl
  · replace t : (!ltR from_ to) = false := t
    have t : ¬ ltR from_ to = false := by simpa using t
    refine .mk bx2 o2 i ea2 rfl (by show i < dn; omega) ?_
    conv => cbv
    refine .mk (EA d) rfl hx2 ?_
    conv => cbv
    refine ⟨fun t2 => ?_, fun t2 => ?_⟩
    · replace t2 := of_decide_eq_true t2
      try simp only [nc] at t2
      try simp only [minF_t] at t2
      try simp only [minF_f] at t2
      try dsimp only at t2
      refine hK.pure rfl (Mem.le_refl _) ?_
      rw [if_pos (.inr t2)]
      rfl
    · replace t2 := of_decide_eq_false t2
      try simp only [nc] at t2
      try simp only [minF_t] at t2
      try simp only [minF_f] at t2
      try dsimp only at t2
      refine CallS.pure (sub01_spec to from_ (R.Wf.of_ok kt) (R.Wf.of_ok kf) M) rfl (REA (subR to from_)) rfl rfl ?_
      conv => cbv
      refine ⟨fun t3 => ?_, fun t3 => ?_⟩
      · replace t3 := of_decide_eq_true t3
        try simp only [nc] at t3
        try simp only [minF_t] at t3
        try simp only [minF_f] at t3
        try dsimp only at t3
        refine hK.pure rfl (Mem.le_refl _) ?_
        rw [if_neg (by rintro (h | h); exact t h; exact t2 h), if_pos t3]
        rfl
      · replace t3 := of_decide_eq_false t3
        try simp only [nc] at t3
        try simp only [minF_t] at t3
        try simp only [minF_f] at t3
        try dsimp only at t3
        refine .mk bx2 o2 i ea2 rfl (by show i < dn; omega) ?_
        conv => cbv
        refine .mk (EA d) rfl hx2 ?_
        conv => cbv
        refine CallS.pure (of60_spec d w2 M) rfl (RA (R.of d)) rfl rfl ?_
        conv => cbv
        refine CallS.pure (mul01_spec (subR to from_).1 (R.of d) (subR_wf _ _) (R.Wf.of_ok kd) M) rfl (REA (mulR (subR to from_).1 (R.of d))) rfl rfl ?_
        conv => cbv
        refine hK.pure rfl (Mem.le_refl _) ?_
        rw [if_neg (by rintro (h | h); exact t h; exact t2 h), if_neg t3]
        rfl

/-- Where the program's walk stands, for the reference's next interval. -/
def Stand (a b at_ : R) (c : Int) : Prop := at_.ok = true ∧ ((ltR b (R.of c) = false ∧ at_ = laterR a (R.of c)) ∨ (ltR b (R.of c) = true ∧ ltR at_ b = false))

theorem stand_next {a b at_ : R} {c0 c1 : Int} (ha : a.ok = true) (hb : b.ok = true) (k0 : (R.of c0).ok = true) (k1 : (R.of c1).ok = true) (hup : c0 < c1) (h : Stand a b at_ c0) (e : R) (he : (if lessC b (R.of c1) then b else R.of c1) = e) :
    Stand a b (if lessC at_ e then e else at_) c1 ∧ e.ok = true ∧ e = soonerR b (R.of c1) := by
  obtain ⟨hat, h⟩ := h
  have e1 : e = soonerR b (R.of c1) := by rw [← he, lessC_eq hb k1, soonerR]
  have eok : e.ok = true := e1 ▸ soonerR_ok hb k1
  have hc : ltR (R.of c0) (R.of c1) = true := by rw [ltR_of]; exact decide_eq_true hup
  have nok : (if lessC at_ e then e else at_).ok = true := by split <;> assumption
  refine ⟨⟨nok, ?_⟩, eok, e1⟩
  rw [lessC_eq hat eok]
  cases hbc : ltR b (R.of c1) with
  | false =>
    left
    have ee : e = R.of c1 := by rw [e1, soonerR, hbc]; simp
    rw [ee]
    refine ⟨rfl, ?_⟩
    rcases h with ⟨h1, h2⟩ | ⟨h1, h2⟩
    · subst h2
      cases hac : ltR a (R.of c1) with
      | true =>
        rw [show laterR a (R.of c1) = R.of c1 by rw [laterR, hac]; simp]
        have : ltR (laterR a (R.of c0)) (R.of c1) = true := by
          unfold laterR
          split
          · exact hc
          · exact hac
        rw [this]; simp
      | false =>
        rw [show laterR a (R.of c1) = a by rw [laterR, hac]; simp]
        have h3 : ltR a (R.of c0) = false := by
          cases h4 : ltR a (R.of c0) with
          | false => rfl
          | true => have := lt_trans' ha k0 k1 h4 hc; rw [hac] at this; cases this
        rw [show laterR a (R.of c0) = a by rw [laterR, h3]; simp, hac]; simp
    · have := lt_trans' hb k0 k1 h1 hc
      rw [hbc] at this; cases this
  | true =>
    right
    have ee : e = b := by rw [e1, soonerR, hbc]; simp
    rw [ee]
    refine ⟨rfl, ?_⟩
    cases h5 : ltR at_ b with
    | true => simp [lt_irrefl']
    | false => simpa using h5

set_option maxHeartbeats 2000000 in
set_option maxRecDepth 100000 in
theorem refValue_spec {q : CP} {c : CakeV} {M : Mem} (h : Ck M q c) (a b : R) (ha : a.Wf) (hb : b.Wf) : Pure1 95 #[q.val, RV a, RV b] M (RE (valueC c a b)) := by
  have hck := h
  obtain ⟨len, ca, cn, ck, da, dn, dk⟩ := q
  obtain ⟨e1, hi, hc, hd⟩ := h
  simp only at e1 hc hd
  subst e1
  have hcn := hc.len
  have hdn := hd.len
  refine ok95.pure 300 [.agg [EA c.len, SA ca cn ck, SA da dn dk], RA a, RA b] rfl (by kernel_rfl) fun c' K hK => ?_
  conv => cbv
  refine CallS.pure (refCheck_spec hck) rfl (EA (checkC c)) rfl rfl ?_
  conv => cbv
  refine ⟨fun h1 => ?_, fun h1 => ?_⟩
  · replace h1 := of_decide_eq_true h1
    try simp only [nc] at h1
    try simp only [minF_t] at h1
    try simp only [minF_f] at h1
    try dsimp only at h1
    refine CallS.pure (refCheck_spec hck) rfl (EA (checkC c)) rfl rfl ?_
    conv => cbv
    refine hK.pure rfl (Mem.le_refl _) ?_
    rw [valueC, if_pos h1]
    rfl
  · replace h1 := of_decide_eq_false h1
    try simp only [nc] at h1
    try simp only [minF_t] at h1
    try simp only [minF_f] at h1
    try dsimp only at h1
    have h1 : checkC c = 0 := by omega
    have h1' : ¬ checkC c ≠ 0 := fun k => k h1
    have g := good h1
    have g1 := g.n1
    have g2 := g.n2
    have g3 := g.n3
    have gl := g.l1
    have gl2 := g.l2
    refine CallS.pure (point02_spec c.len a hi (by omega) ha M) rfl (.sb fun _ => pointC c.len a) rfl rfl ?_
    conv => cbv
    refine ⟨fun p1 => ?_, fun p1 => ?_⟩
    · replace p1 : (!pointC c.len a) = true := p1
      refine hK.pure rfl (Mem.le_refl _) ?_
      rw [valueC, if_neg h1', if_pos (.inl (by simpa using p1))]
      rfl
    · replace p1 : (!pointC c.len a) = false := p1
      have p1 : pointC c.len a = true := by simpa using p1
      refine CallS.pure (point02_spec c.len b hi (by omega) hb M) rfl (.sb fun _ => pointC c.len b) rfl rfl ?_
      conv => cbv
      refine ⟨fun p2 => ?_, fun p2 => ?_⟩
      · replace p2 : (!pointC c.len b) = true := p2
        refine hK.pure rfl (Mem.le_refl _) ?_
        rw [valueC, if_neg h1', if_pos (.inr (.inl (by simpa using p2)))]
        rfl
      · replace p2 : (!pointC c.len b) = false := p2
        have p2 : pointC c.len b = true := by simpa using p2
        have oa : a.ok = true := by simp only [pointC, Bool.and_eq_true] at p1; exact p1.1.1
        have ob : b.ok = true := by simp only [pointC, Bool.and_eq_true] at p2; exact p2.1.1
        have an : 0 ≤ a.n := by simp only [pointC, Bool.and_eq_true, decide_eq_true_eq] at p1; exact p1.1.2
        have bn : 0 ≤ b.n := by simp only [pointC, Bool.and_eq_true, decide_eq_true_eq] at p2; exact p2.1.2
        refine CallS.pure (less01_spec b a ob oa M) rfl (.sb fun _ => ltR b a) rfl rfl ?_
        conv => cbv
        refine ⟨fun p3 => ?_, fun p3 => ?_⟩
        · replace p3 : ltR b a = true := p3
          refine hK.pure rfl (Mem.le_refl _) ?_
          rw [valueC, if_neg h1', if_pos (.inr (.inr (by rw [lessC_eq ob oa]; exact p3)))]
          rfl
        · replace p3 : ltR b a = false := p3
          have hv : valueC c a b = valL b (pairs c) (R.of 0) a := by
            rw [valueC, if_neg h1', if_neg]
            rintro (k | k | k)
            · rw [p1] at k; cases k
            · rw [p2] at k; cases k
            · rw [lessC_eq ob oa, p3] at k; cases k
          rw [hv] at hK
          have kc : ∀ i (hh : i < c.cuts.length), (R.of c.cuts[i]).ok = true := fun i hh => of_ok (by have := g.cut hh; omega)
          refine OKS.loopH (fun (p : Nat × R × R) => p.1 ≤ dn ∧ p.2.1.ok = true ∧ valL b ((pairs c).drop p.1) p.2.1 p.2.2 = valL b (pairs c) (R.of 0) a ∧ ∀ hh : p.1 < c.cuts.length, Stand a b p.2.2 c.cuts[p.1])
            (fun p => [(9, EA p.1)]) (fun p => [(8, .cells 43 [EA p.2.1.n, EA p.2.1.d]), (10, .none)]) (fun _ => M) (fun p => dn - p.1) (0, R.of 0, a) ⟨by simp, of_ok (by simp), by simp, fun hh => ⟨oa, .inl ⟨?_, ?_⟩⟩⟩ ?_ ?_
          · have f := g.first
            rw [List.getElem?_eq_getElem hh] at f
            have f := Option.some.inj f
            show ltR b (R.of c.cuts[0]) = false
            rw [f, nltR_iff]
            simp [R.of, bn]
          · have f := g.first
            rw [List.getElem?_eq_getElem hh] at f
            have f := Option.some.inj f
            show a = laterR a (R.of c.cuts[0])
            rw [f, laterR, if_neg]
            rw [ltR_iff]
            simp [R.of]; omega
          · refine ⟨by cbv <;> simp, by cbv <;> simp [R.of], by cbv, Mem.le_refl _⟩
          · intro ⟨i, s, at_⟩ ⟨hi1, hso, hval, hst⟩ ih
            simp only at hi1 hso hval hst
            refine ok95.go 100 (by kernel_rfl) ?_
            conv => cbv
            refine ⟨fun l1 => ?_, fun l1 => ?_⟩
            · replace l1 := of_decide_eq_true l1
              try simp only [nc] at l1
              try simp only [minF_t] at l1
              try simp only [minF_f] at l1
              try dsimp only at l1
              have hpr := pairs_drop g (i := i) (by omega)
              have hst := hst (by omega)
              have hup := g.up i (by omega)
              have k0 := kc i (by omega)
              have k1 := kc (i + 1) (by omega)
              have hdm := g.dens _ (List.getElem_mem (show i < c.dens.length by omega))
              have hw := worth_spec hck g (i := i) (by omega) a b oa ob
              obtain ⟨c0, hc0⟩ : ∃ c0, c.cuts[i]'(by omega) = c0 := ⟨_, rfl⟩
              obtain ⟨c1, hc1⟩ : ∃ c1, c.cuts[i + 1]'(by omega) = c1 := ⟨_, rfl⟩
              obtain ⟨d, hdd⟩ : ∃ d, c.dens[i]'(by omega) = d := ⟨_, rfl⟩
              rw [hc0] at hst hup k0 hw
              rw [hc1] at hup k1 hpr hw
              rw [hdd] at hpr hw hdm
              obtain ⟨en, hen⟩ : ∃ en, (if lessC b (R.of c1) then b else R.of c1) = en := ⟨_, rfl⟩
              obtain ⟨sn1, sn2, sn3⟩ := stand_next oa ob k0 k1 hup hst en hen
              obtain ⟨w, hww⟩ : ∃ w, worthR c0 c1 d a b = w := ⟨_, rfl⟩
              have hwwf : w.1.Wf := hww ▸ worthR_wf ..
              rw [hww] at hw
              rw [hpr] at hval
              have hstn : ∀ hh : i + 1 < c.cuts.length, c.cuts[i + 1] = c1 := fun _ => hc1
              refine CallS.pure hw rfl (REA w) rfl rfl ?_
              conv => cbv
              -- does the reference skip it?
              by_cases hsk : d = 0 ∨ lessC at_ en = false
              · rw [valL_skip hen hsk] at hval
                have hw0 : w = (R.of 0, 0) := by
                  rw [← hww, worthR, if_pos]
                  rcases hsk with hsk | hsk
                  · exact .inr hsk
                  · left
                    rw [lessC_eq hst.1 sn2] at hsk
                    rw [← sn3]
                    rcases hst.2 with ⟨s1, s2⟩ | ⟨s1, s2⟩
                    · rw [← s2]; exact hsk
                    · have hbc1 : ltR b (R.of c1) = true := lt_trans' ob k0 k1 s1 (by rw [ltR_of]; exact decide_eq_true hup)
                      have hac0 : ltR a (R.of c0) = true := le_lt oa ob k0 p3 s1
                      rw [sn3, soonerR, if_pos hbc1, laterR, if_pos hac0]
                      exact lt_asymm' s1
                refine ⟨fun t1 => ?_, fun t1 => ?_⟩
                · replace t1 := of_decide_eq_true t1
                  try simp only [nc] at t1
                  try simp only [minF_t] at t1
                  try simp only [minF_f] at t1
                  try dsimp only at t1
                  rw [hw0] at t1
                  exact absurd rfl t1
                · have hadd := addR_of0 hso
                  refine CallS.pure (add01_spec s w.1 (R.Wf.of_ok hso) hwwf M) rfl (REA (s, 0)) rfl (by rw [hw0, hadd]; rfl) ?_
                  conv => cbv
                  refine ⟨fun t2 => ?_, fun t2 => ?_⟩
                  · exact absurd (of_decide_eq_true t2) (fun k => k rfl)
                  · refine .i64 ((i + 1 : Nat) : Int) (by show (i : Int) + 1 = _; omega) (by omega) (by omega) ?_
                    conv => cbv
                    refine ih (i + 1, s, if lessC at_ en then en else at_) ⟨by simp only; omega, hso, hval, fun hh => by simp only; rw [hstn hh]; exact sn1⟩ (by simp only; omega) _ ?_
                    refine ⟨by cbv <;> simp, by cbv <;> simp, by cbv, Mem.le_refl _⟩
              · have hle : lessC at_ en = true := by
                  cases hx : lessC at_ en with
                  | true => rfl
                  | false => exact absurd (.inr hx) hsk
                rw [hle, if_pos rfl] at sn1
                have hlt : ltR at_ en = true := by rw [← lessC_eq hst.1 sn2]; exact hle
                have hat : at_ = laterR a (R.of c0) := by
                  rcases hst.2 with ⟨s1, s2⟩ | ⟨s1, s2⟩
                  · exact s2
                  · have hbc1 : ltR b (R.of c1) = true := lt_trans' ob k0 k1 s1 (by rw [ltR_of]; exact decide_eq_true hup)
                    rw [sn3, soonerR, if_pos hbc1] at hlt
                    rw [s2] at hlt; cases hlt
                have hwv : w = if (subR en at_).2 ≠ 0 then (R.zero, (subR en at_).2) else mulR (subR en at_).1 (R.of d) := by
                  rw [← hww, worthR, ← sn3, ← hat, if_neg]
                  rintro (k | k)
                  · rw [hlt] at k; cases k
                  · exact hsk (.inl k)
                by_cases w1 : (subR en at_).2 ≠ 0
                · rw [valL_err1 hen hsk w1] at hval
                  rw [if_pos w1] at hwv
                  refine ⟨fun t1 => ?_, fun t1 => ?_⟩
                  · replace t1 := of_decide_eq_true t1
                    try simp only [nc] at t1
                    try simp only [minF_t] at t1
                    try simp only [minF_f] at t1
                    try dsimp only at t1
                    refine hK.pure rfl (Mem.le_refl _) ?_
                    rw [← hval, hwv]
                    rfl
                  · replace t1 := of_decide_eq_false t1
                    try simp only [nc] at t1
                    try simp only [minF_t] at t1
                    try simp only [minF_f] at t1
                    try dsimp only at t1
                    rw [hwv] at t1
                    exact absurd t1 (fun k => k w1)
                · rw [if_neg w1] at hwv
                  by_cases w2 : (mulR (subR en at_).1 (R.of d)).2 ≠ 0
                  · rw [valL_err2 hen hsk w1 w2] at hval
                    refine ⟨fun t1 => ?_, fun t1 => ?_⟩
                    · replace t1 := of_decide_eq_true t1
                      try simp only [nc] at t1
                      try simp only [minF_t] at t1
                      try simp only [minF_f] at t1
                      try dsimp only at t1
                      refine hK.pure rfl (Mem.le_refl _) ?_
                      rw [← hval, hwv]
                      rfl
                    · replace t1 := of_decide_eq_false t1
                      try simp only [nc] at t1
                      try simp only [minF_t] at t1
                      try simp only [minF_f] at t1
                      try dsimp only at t1
                      rw [hwv] at t1
                      exact absurd t1 (fun k => k w2)
                  · refine ⟨fun t1 => ?_, fun t1 => ?_⟩
                    · replace t1 := of_decide_eq_true t1
                      try simp only [nc] at t1
                      try simp only [minF_t] at t1
                      try simp only [minF_f] at t1
                      try dsimp only at t1
                      rw [hwv] at t1
                      exact absurd t1 w2
                    · refine CallS.pure (add01_spec s w.1 (R.Wf.of_ok hso) hwwf M) rfl (REA (addR s w.1)) rfl rfl ?_
                      conv => cbv
                      rw [hwv]
                      refine ⟨fun t2 => ?_, fun t2 => ?_⟩
                      · replace t2 := of_decide_eq_true t2
                        try simp only [nc] at t2
                        try simp only [minF_t] at t2
                        try simp only [minF_f] at t2
                        try dsimp only at t2
                        rw [valL_err3 hen hsk w1 w2 t2] at hval
                        refine hK.pure rfl (Mem.le_refl _) ?_
                        rw [← hval]
                        rfl
                      · replace t2 := of_decide_eq_false t2
                        try simp only [nc] at t2
                        try simp only [minF_t] at t2
                        try simp only [minF_f] at t2
                        try dsimp only at t2
                        rw [valL_next hen hsk w1 w2 t2] at hval
                        have hok := addR_ok (a := s) (b := (mulR (subR en at_).1 (R.of d)).1) (by omega)
                        obtain ⟨s', hs'⟩ : ∃ s', (addR s (mulR (subR en at_).1 (R.of d)).1).1 = s' := ⟨_, rfl⟩
                        rw [hs'] at hval hok ⊢
                        refine .i64 ((i + 1 : Nat) : Int) (by show (i : Int) + 1 = _; omega) (by omega) (by omega) ?_
                        conv => cbv
                        refine ih (i + 1, s', en) ⟨by simp only; omega, hok, hval, fun hh => by simp only; rw [hstn hh]; exact sn1⟩ (by simp only; omega) _ ?_
                        refine ⟨by cbv <;> simp, by cbv <;> simp, by cbv, Mem.le_refl _⟩
            · replace l1 := of_decide_eq_false l1
              try simp only [nc] at l1
              try simp only [minF_t] at l1
              try simp only [minF_f] at l1
              try dsimp only at l1
              have : i = dn := by omega
              subst this
              refine hK.pure rfl (Mem.le_refl _) ?_
              rw [← hval, List.drop_eq_nil_of_le (by rw [pairs_len g]; omega)]
              rfl

end Go.SX
