/- Package cake: the mark. -/
import Derived.Test.YtojdihbanakhgaaAgI
namespace Go.SX
open Go.Proofs.Try Go.Proofs

def markC (c : CakeV) (a v : R) : R × Int :=
  if checkC c ≠ 0 then (R.zero, checkC c)
  else if pointC c.len a = false ∨ v.ok = false ∨ v.n < 0 then (R.zero, 2)
  else if v.n = 0 then (a, 0)
  else
    let w := walkL (pairs c) a ⟨v, 6, R.zero⟩
    let late := if w.1 ≠ 0 then w.1 else w.2.late
    if late ≠ 0 then (R.zero, late) else (w.2.out, 0)

theorem mark_spec {q : CP} {c : CakeV} {M : Mem} (h : Ck M q c) (a v : R) (ha : a.Wf) (hv : v.Wf) : Pure1 27 #[q.val, RV a, RV v] M (RE (markC c a v)) := by
  have hck := h
  obtain ⟨len, ca, cn, ck, da, dn, dk⟩ := q
  obtain ⟨e1, hi, hc, hd⟩ := h
  simp only at e1 hc hd
  subst e1
  refine ok27.pure 24 [.agg [EA c.len, SA ca cn ck, SA da dn dk], RA a, RA v] rfl (by kernel_rfl) fun c' K hK => ?_
  conv => cbv
  refine CallS.pure (cakeCheck_spec hck) rfl (EA (checkC c)) rfl rfl ?_
  conv => cbv
  refine ⟨fun h1 => ?_, fun h1 => ?_⟩
  · replace h1 := of_decide_eq_true h1
    try simp only [nc] at h1
    try simp only [minF_t] at h1
    try simp only [minF_f] at h1
    try dsimp only at h1
    refine hK.pure rfl (Mem.le_refl _) ?_
    rw [markC, if_pos h1]
    rfl
  · replace h1 := of_decide_eq_false h1
    try simp only [nc] at h1
    try simp only [minF_t] at h1
    try simp only [minF_f] at h1
    try dsimp only at h1
    have h1 : checkC c = 0 := by omega
    have g := good h1
    refine CallS.pure (point_spec hck a ha) rfl (.sb fun _ => pointC c.len a) rfl rfl ?_
    conv => cbv
    refine ⟨fun p1 => ?_, fun p1 => ?_⟩
    · replace p1 : (!pointC c.len a) = true := p1
      refine hK.pure rfl (Mem.le_refl _) ?_
      rw [markC, if_neg (by omega), if_pos (.inl (by simpa using p1))]
      rfl
    · replace p1 : (!pointC c.len a) = false := p1
      refine CallS.pure (check_spec v hv M) rfl (EA (okE v)) rfl rfl ?_
      conv => cbv
      refine ⟨fun p2 => ?_, fun p2 => ?_⟩
      · replace p2 := of_decide_eq_true p2
        try simp only [nc] at p2
        try simp only [minF_t] at p2
        try simp only [minF_f] at p2
        try dsimp only at p2
        refine hK.pure rfl (Mem.le_refl _) ?_
        have hvo : v.ok = false := by
          by_cases e : v.ok = true
          · rw [okE, if_pos e] at p2; exact absurd rfl p2
          · simpa using e
        rw [markC, if_neg (by omega), if_pos (.inr (.inl hvo))]
        rfl
      · replace p2 := of_decide_eq_false p2
        try simp only [nc] at p2
        try simp only [minF_t] at p2
        try simp only [minF_f] at p2
        try dsimp only at p2
        have hvo : v.ok = true := by
          by_cases e : v.ok = true
          · exact e
          · rw [okE, if_neg e] at p2; exact absurd (by decide) p2
        refine ⟨fun p3 => ?_, fun p3 => ?_⟩
        · replace p3 := of_decide_eq_true p3
          try simp only [nc] at p3
          try simp only [minF_t] at p3
          try simp only [minF_f] at p3
          try dsimp only at p3
          refine hK.pure rfl (Mem.le_refl _) ?_
          rw [markC, if_neg (by omega), if_pos (.inr (.inr p3))]
          rfl
        · replace p3 := of_decide_eq_false p3
          try simp only [nc] at p3
          try simp only [minF_t] at p3
          try simp only [minF_f] at p3
          try dsimp only at p3
          have hn : ¬ (pointC c.len a = false ∨ v.ok = false ∨ v.n < 0) := by
            rintro (k | k | k)
            · rw [k] at p1; cases p1
            · rw [k] at hvo; cases hvo
            · exact p3 k
          refine ⟨fun p4 => ?_, fun p4 => ?_⟩
          · replace p4 := of_decide_eq_true p4
            try simp only [nc] at p4
            try simp only [minF_t] at p4
            try simp only [minF_f] at p4
            try dsimp only at p4
            refine hK.pure rfl (Mem.le_refl _) ?_
            rw [markC, if_neg (by omega), if_neg hn, if_pos p4]
            rfl
          · replace p4 := of_decide_eq_false p4
            try simp only [nc] at p4
            try simp only [minF_t] at p4
            try simp only [minF_f] at p4
            try dsimp only at p4
            refine OKS.shutIn 5 (T := 43) (l := [EA v.n, EA v.d]) rfl rfl fun bv nv Bv => ?_
            refine OKS.shutIn 10 (T := 27) (l := [.int .i64 6]) rfl rfl fun bl nl Bl => ?_
            refine OKS.shutIn 9 (T := 43) (l := [.int .i64 0, .int .i64 0]) rfl rfl fun bo no Bo => ?_
            have nv : M bv = none := nv
            have hvl : bv ≠ bl := fun e => by
              subst e
              have nl : (M.set bv (.obj (.cells (AV.vals [EA v.n, EA v.d]) 43 (0, 0)))) bv = none := nl
              simp [Mem.set] at nl
            have nl : M bl = none := by
              have nl : (M.set bv (.obj (.cells (AV.vals [EA v.n, EA v.d]) 43 (0, 0)))) bl = none := nl
              simpa [Mem.set, hvl.symm] using nl
            have hvo' : bv ≠ bo := fun e => by
              subst e
              have no : ((M.set bv (.obj (.cells (AV.vals [EA v.n, EA v.d]) 43 (0, 0)))).set bl (.obj (.cells (AV.vals [.int .i64 6]) 27 (0, 0)))) bv = none := no
              simp [Mem.set, hvl] at no
            have hlo : bl ≠ bo := fun e => by
              subst e
              have no : ((M.set bv (.obj (.cells (AV.vals [EA v.n, EA v.d]) 43 (0, 0)))).set bl (.obj (.cells (AV.vals [.int .i64 6]) 27 (0, 0)))) bl = none := no
              simp [Mem.set] at no
            have no : M bo = none := by
              have no : ((M.set bv (.obj (.cells (AV.vals [EA v.n, EA v.d]) 43 (0, 0)))).set bl (.obj (.cells (AV.vals [.int .i64 6]) 27 (0, 0)))) bo = none := no
              simpa [Mem.set, hvo'.symm, hlo.symm] using no
            obtain ⟨M3, hM3⟩ : ∃ M3, M3 = (((M.set bv (.obj (.cells (AV.vals [EA v.n, EA v.d]) 43 (0, 0)))).set bl (.obj (.cells (AV.vals [.int .i64 6]) 27 (0, 0)))).set bo (.obj (.cells (AV.vals [.int .i64 0, .int .i64 0]) 43 (0, 0)))) := ⟨_, rfl⟩
            have hle : M.le M3 := by
              intro b f hb
              refine ⟨f, ?_, f.le_refl⟩
              have k1 : b ≠ bv := fun e => by subst e; rw [nv] at hb; cases hb
              have k2 : b ≠ bl := fun e => by subst e; rw [nl] at hb; cases hb
              have k3 : b ≠ bo := fun e => by subst e; rw [no] at hb; cases hb
              rw [hM3]
              simp [Mem.set, k1, k2, k3, hb]
            have hdis : ∀ b, M b ≠ none → L3 bv bl bo b = false := fun b hb => by
              simp only [L3, Bool.or_eq_false_iff, beq_eq_false_iff_ne]
              exact ⟨⟨fun e => hb (e ▸ nv), fun e => hb (e ▸ nl)⟩, fun e => hb (e ▸ no)⟩
            have hc3 : Cell3 M3 bv bl bo ⟨v, 6, R.zero⟩ := by
              rw [hM3]
              refine ⟨?_, ?_, ?_⟩
              · simp [Mem.set, hvl, hvo', AV.vals, AV.denL, AV.den]
              · simp [Mem.set, hlo, AV.vals, AV.denL, AV.den]
              · simp [Mem.set, AV.vals, AV.denL, AV.den, R.zero]
            obtain ⟨w, hw⟩ : ∃ w, walkL (pairs c) a ⟨v, 6, R.zero⟩ = w := ⟨_, rfl⟩
            have hmk : markC c a v = if (if w.1 ≠ 0 then w.1 else w.2.late) ≠ 0 then (R.zero, if w.1 ≠ 0 then w.1 else w.2.late) else (w.2.out, 0) := by
              rw [markC, if_neg (by omega), if_neg hn, if_neg p4, hw]
            rw [hmk] at hK
            have hst : MSt.Wf ⟨v, 6, R.zero⟩ := ⟨hv, by simp [I64], zeroR_wf⟩
            have hL : ∀ b, L3 bv bl bo b = true → M3 b ≠ none ∧ (c'.B0 ≤ b ∨ c'.lent b = true) := fun b hb => by
              simp only [L3, Bool.or_eq_true, beq_iff_eq] at hb
              rcases hb with (rfl | rfl) | rfl
              · exact ⟨by rw [hc3.v]; simp, .inl Bv⟩
              · exact ⟨by rw [hc3.late]; simp, .inl Bl⟩
              · exact ⟨by rw [hc3.out]; simp, .inl Bo⟩
            have hwalk := walk_spec hvl hvo' hlo hck hle hdis g a ha hst hc3
            rw [hw] at hwalk
            subst hM3
            refine ok27.go 100 (by kernel_rfl) ?_
            conv => cbv
            refine CallS.specU hwalk rfl hL (.inl rfl) fun B M' u hB hlt hkeep hnew hpost => ?_
            obtain ⟨rfl, hc'⟩ := hpost
            refine ⟨EA w.1, rfl, rfl, ?_⟩
            conv => cbv
            have hle' : M.le M' := hkeep.leC hle hdis
            refine ⟨fun w1 => ?_, fun w1 => ?_⟩
            · replace w1 := of_decide_eq_true w1
              try simp only [nc] at w1
              try simp only [minF_t] at w1
              try simp only [minF_f] at w1
              try dsimp only at w1
              refine .obj hc'.late (.inl Bl) (by simp) rfl ?_
              have c2 := hc'.setL hvl hlo w.1
              have hle2 := (hkeep.set (f := .obj (.cells [EV w.1].toArray 27 (0, 0))) (.inr (L3.l (bv := bv) (bl := bl) (bo := bo)))).leC hle hdis
              conv => cbv
              refine .mk (EA w.1) rfl (CellsAt.obj c2.late).1 ?_
              conv => cbv
              refine ⟨fun w2 => ?_, fun w2 => ?_⟩
              · refine .mk (EA w.1) rfl (CellsAt.obj c2.late).1 ?_
                conv => cbv
                refine hK.pure rfl hle2 ?_
                rw [if_pos w1, if_pos w1]
                rfl
              · replace w2 := of_decide_eq_false w2
                exact absurd w1 w2
            · replace w1 := of_decide_eq_false w1
              try simp only [nc] at w1
              try simp only [minF_t] at w1
              try simp only [minF_f] at w1
              try dsimp only at w1
              refine .mk (EA w.2.late) rfl (CellsAt.obj hc'.late).1 ?_
              conv => cbv
              refine ⟨fun w2 => ?_, fun w2 => ?_⟩
              · replace w2 := of_decide_eq_true w2
                try simp only [nc] at w2
                try simp only [minF_t] at w2
                try simp only [minF_f] at w2
                try dsimp only at w2
                refine .mk (EA w.2.late) rfl (CellsAt.obj hc'.late).1 ?_
                conv => cbv
                refine hK.pure rfl hle' ?_
                rw [if_neg w1, if_pos w2]
                rfl
              · replace w2 := of_decide_eq_false w2
                try simp only [nc] at w2
                try simp only [minF_t] at w2
                try simp only [minF_f] at w2
                try dsimp only at w2
                refine .mk [EA w.2.out.n, EA w.2.out.d] rfl rfl (CellsAt.obj hc'.out) ?_
                conv => cbv
                refine hK.pure rfl hle' ?_
                rw [if_neg w1, if_neg w2]
                rfl

end Go.SX
