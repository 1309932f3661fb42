/- Law 36: AgentAlone. -/
import Derived.Test.YtojdihbanakhgaaAhJ
import Derived.Test.YtojdihbanakhgaaAhM
import Derived.Test.YtojdihbanakhgaaSxFn0
import Derived.Test.YtojdihbanakhgaaAgSa
namespace Go.SX
open Go.Proofs.Try Go.Proofs

theorem chunk_len {sz : Nat} : ∀ {cs : List (List Value)}, (∀ x ∈ cs, x.length = sz) → cs.flatten.length = cs.length * sz
  | [], _ => by simp
  | y :: cs, h => by
    have ih := chunk_len (cs := cs) fun x hx => h x (by simp [hx])
    rw [List.flatten_cons, List.length_append, ih, h y (by simp), List.length_cons, Nat.add_mul]
    omega

theorem splice_chunk {sz : Nat} : ∀ (cs : List (List Value)) (i : Nat) (v : List Value), (∀ x ∈ cs, x.length = sz) → v.length = sz → i < cs.length → spliceV cs.flatten (i * sz) v = (cs.set i v).flatten
  | [], i, v, _, _, h => by simp at h
  | y :: cs, 0, v, h, hv, _ => by
    have hy := h y (by simp)
    unfold spliceV
    rw [List.set_cons_zero, List.flatten_cons, List.flatten_cons, Nat.zero_mul, List.take_zero, List.nil_append, Nat.zero_add, hv, ← hy, List.drop_left]
  | y :: cs, i + 1, v, h, hv, hi => by
    have hy := h y (by simp)
    have ih := splice_chunk cs i v (fun x hx => h x (by simp [hx])) hv (by simpa using hi)
    rw [List.set_cons_succ, List.flatten_cons, List.flatten_cons, ← ih]
    unfold spliceV
    have e0 : (i + 1) * sz = y.length + i * sz := by rw [hy, Nat.add_mul]; omega
    rw [e0, List.take_length_add_append, Nat.add_assoc, List.drop_length_add_append, List.append_assoc, List.append_assoc, List.append_assoc]

theorem all2_len {sz : Nat} {α : Type} {R : ElR α} {M : Mem} {cs : List (List Value)} {l : List α} (h : All2 (fun c x => c.length = sz ∧ R M c x) cs l) : ∀ x ∈ cs, x.length = sz := fun x hx => by
  obtain ⟨j, hj⟩ := List.getElem?_of_mem hx
  have hlt : j < l.length := by rw [← h.length]; exact (List.getElem?_eq_some_iff.1 hj).1
  obtain ⟨c', e1, e2, _⟩ := h.get (List.getElem?_eq_getElem hlt)
  rw [hj] at e1; cases e1; exact e2

theorem all2_one {sz : Nat} {α : Type} {R : ElR α} (hone : ∀ M cs x, R M cs x → ∀ u ∈ cs, u.oneCell' = true) {M : Mem} {cs : List (List Value)} {l : List α} (h : All2 (fun c x => c.length = sz ∧ R M c x) cs l) : ∀ u ∈ cs.flatten, u.oneCell' = true := fun u hu => by
  obtain ⟨x, hx, hux⟩ := List.mem_flatten.1 hu
  obtain ⟨j, hj⟩ := List.getElem?_of_mem hx
  have hlt : j < l.length := by rw [← h.length]; exact (List.getElem?_eq_some_iff.1 hj).1
  obtain ⟨c', e1, _, e3⟩ := h.get (List.getElem?_eq_getElem hlt)
  rw [hj] at e1; cases e1
  exact hone _ _ _ e3 u hux

set_option maxRecDepth 100000 in
theorem replaced_spec {l others : List ActV} {M : Mem} {a oa : Option Addr} {n k on ok : Nat} (h : RActs M a n k l) (ho : RActs M oa on ok others) (hs : n ≤ 10) (he : n = on) {w : Nat} (hw : w < l.length) :
    Spec 66 #[SV a n k, SV oa on ok, EV (w : Nat)] M fun _ M' v => ∃ a' k', v = SV a' n k' ∧ RActs M' a' n k' (others.set w l[w]) := by
  have hn := h.len
  have hon := ho.len
  refine ok66.spec 200 [SA a n k, SA oa on ok, EA (w : Nat)] rfl (by kernel_rfl) fun c K hK => ?_
  conv => cbv
  obtain ⟨cs, h1, h2⟩ := ho.els
  obtain ⟨b', o', ea', hc'⟩ := h2 (fun e => by rw [e] at hon; simp at hon; omega)
  subst ea'
  have hcl := h1.length
  have hc8 := all2_len h1
  refine .mk trivial fun b1 M1 n1 B1 e1 => ?_
  have f1 : M1 = M.set b1 (.row 97 0 []) := e1
  have k1 : ∀ b, M b ≠ none → M1 b = M b := by rw [f1]; exact keep_set n1
  conv => cbv
  have hown : Own c M1 97 8 (some ⟨b1, 0, none⟩) 0 0 [] := ⟨by simp, .inr ⟨b1, rfl, .inl B1, by rw [f1]; exact set_self .., Nat.le_refl _, by simp [maxLen]⟩⟩
  refine AppS.own (t := 22) (e := 97) (ti := ti22) (ei := ti97) rfl rfl rfl (by decide) rfl (x := SA (some ⟨b1, 0, none⟩) 0 0) (y := SA (some ⟨b', o', none⟩) on ok) rfl hown rfl (hc'.le (le_of_keep k1)) (by rw [chunk_len hc8, hcl, ← hon]; rfl) (all2_one ElA.one h1) (by simp only [maxLen]; omega) (by show (0 + on) * 128 ≤ _; omega) fun M2 a2 k2 h4 g4 => ?_
  conv => cbv
  rw [List.nil_append] at h4
  rcases h4.row with ⟨_, ez, _⟩ | ⟨g, ga, gB, gM, gn, gm⟩
  · have ez : 0 + on = 0 := ez
    omega
  have gn : 0 + on ≤ k2 := gn
  have gB : c.B0 ≤ g := by
    rcases gB with gB | gB
    · exact gB
    · rw [hK.lent] at gB; cases gB
  have kp2 : ∀ b, M b ≠ none → M2 b = M b := fun b hb => by
    rw [g4.keep b (by rw [k1 b hb]; exact hb) ?_, k1 b hb]
    rintro g' e rfl
    cases e
    exact hb n1
  have ng : M g = none := by
    cases hc : M g with
    | none => rfl
    | some f => have := hK.lt g (by rw [hc]; simp); omega
  obtain ⟨b, o, p, ea, hp, hak⟩ := h.actor (i := w) hw
  refine .mk b o w ea rfl (by show w < n; omega) ?_
  conv => cbv
  refine .mk p.avs rfl rfl (CellsAt.le (le_of_keep kp2) hp) ?_
  conv => cbv
  subst ga
  refine .mk g 0 w rfl rfl (by show w < 0 + on; omega) ?_
  conv => cbv
  refine .rowM gM (.inl gB) (by show 0 + w * 8 + 8 ≤ _; rw [chunk_len hc8]; omega) rfl (cs' := (cs.set w p.cells).flatten) (by show spliceV cs.flatten (0 + w * 8) p.cells = _; rw [Nat.zero_add]; exact splice_chunk cs w p.cells hc8 rfl (by omega)) fun M3 hM3 => ?_
  conv => cbv
  have kp3 : ∀ b, M b ≠ none → M3 b = M b := by rw [hM3]; exact keep_off kp2 ng
  refine hK.ground rfl (Keeps.of_keep kp3) ⟨some ⟨g, 0, none⟩, k2, ?_, ⟨?_, ?_, (fun h => by cases h), cs.set w p.cells, ?_, fun _ => ⟨g, 0, rfl, ?_⟩⟩⟩
  · simp only [AV.val, AV.den, Nat.zero_add, he]
  · simp only [List.length_set]; omega
  · simp only [List.length_set]; omega
  · exact (h1.mono fun _ _ ⟨q1, q2⟩ => ⟨q1, ElA.up _ _ (le_of_keep kp3) _ _ q2⟩).set w ⟨rfl, p, rfl, hak.up (le_of_keep kp3)⟩
  · exact CellsAt.row (T := 97) (N := k2 * ti97.size) (by rw [hM3]; exact set_self ..)

set_option maxHeartbeats 2000000 in
set_option maxRecDepth 100000 in
theorem agentAlone_spec {l others : List ActV} {q : List QV} {M : Mem} {a oa qa : Option Addr} {n k on ok qn qk : Nat} (h : RActs M a n k l) (ho : RActs M oa on ok others) (hq : RQ M qa qn qk q) (who : Int) (_hw : I64 who) :
    Spec 10 #[SV a n k, SV oa on ok, EV who, SV qa qn qk] M fun _ _ v => v = .bool true := by
  have hn := h.len
  have hon := ho.len
  have hqn := hq.len
  refine ok10.spec 400 [SA a n k, SA oa on ok, EA who, SA qa qn qk] rfl (by kernel_rfl) fun c K hK => ?_
  conv => cbv
  refine CallS.spec (alive36_spec M) rfl fun B0 M0 v0 hB0 hlt0 hk0 hn0 ev0 => ⟨.tt, rfl, ev0.symm, ?_⟩
  conv => cbv
  refine CallS.spec (greatActs_spec (h.up ElA.up hk0.le)) rfl fun B1 M1 v1 hB1 hlt1 hk1 hn1 ev1 => ⟨.sb fun _ => greatA l, rfl, ev1.symm, ?_⟩
  have K1 := keep_trans hk0.keep hk1.keep
  conv => cbv
  refine ⟨fun g1 => ?_, fun g1 => ?_⟩
  · exact hK.ground rfl (Keeps.of_keep K1) rfl
  · replace g1 : greatA l = false := g1
    have hl10 : l.length ≤ 10 := by
      simp only [greatA, Bool.or_eq_false_iff, decide_eq_false_iff_not] at g1
      omega
    refine CallS.spec (greatActs_spec (ho.up ElA.up (le_of_keep K1))) rfl fun B2 M2 v2 hB2 hlt2 hk2 hn2 ev2 => ⟨.sb fun _ => greatA others, rfl, ev2.symm, ?_⟩
    have K2 := keep_trans K1 hk2.keep
    conv => cbv
    refine ⟨fun g2 => ?_, fun g2 => ?_⟩
    · exact hK.ground rfl (Keeps.of_keep K2) rfl
    · refine ⟨fun g3 => ?_, fun g3 => ?_⟩
      · exact hK.ground rfl (Keeps.of_keep K2) rfl
      · replace g3 := of_decide_eq_false g3
        try simp only [nc] at g3
        try simp only [minF_t] at g3
        try simp only [minF_f] at g3
        try dsimp only at g3
        refine ⟨fun g4 => ?_, fun g4 => ?_⟩
        · exact hK.ground rfl (Keeps.of_keep K2) rfl
        · replace g4 := of_decide_eq_false g4
          try simp only [nc] at g4
          try simp only [minF_t] at g4
          try simp only [minF_f] at g4
          try dsimp only at g4
          refine ⟨fun g5 => ?_, fun g5 => ?_⟩
          · exact hK.ground rfl (Keeps.of_keep K2) rfl
          · replace g5 := of_decide_eq_false g5
            try simp only [nc] at g5
            try simp only [minF_t] at g5
            try simp only [minF_f] at g5
            try dsimp only at g5
            refine ⟨fun g6 => ?_, fun g6 => ?_⟩
            · exact hK.ground rfl (Keeps.of_keep K2) rfl
            · replace g6 := of_decide_eq_false g6
              try simp only [nc] at g6
              try simp only [minF_t] at g6
              try simp only [minF_f] at g6
              try dsimp only at g6
              obtain ⟨w, rfl⟩ : ∃ w : Nat, who = (w : Int) := ⟨who.toNat, by omega⟩
              have hwl : w < l.length := by omega
              have hno : n = on := by omega
              refine CallS.spec (open36_spec (h.up ElA.up (le_of_keep K2))) rfl fun B3 M3 v3 hB3 hlt3 hk3 hn3 ⟨u3, ev3, aa3, ak3, qa3, qk3, eu3, ra3, rq3⟩ => ⟨.tup [MA aa3 (openR l).acts.length ak3 qa3 (openR l).log.length qk3, EA (meetC l [])], rfl, (by rw [ev3, eu3]; rfl), ?_⟩
              have K3 := keep_trans K2 hk3.keep
              conv => cbv
              refine CallS.spec (replaced_spec (h.up ElA.up (le_of_keep K3)) (ho.up ElA.up (le_of_keep K3)) (by omega) hno hwl) rfl fun B4 M4 v4 hB4 hlt4 hk4 hn4 ⟨a4, k4, ev4, r4⟩ => ⟨SA a4 n k4, rfl, ev4.symm, ?_⟩
              have K4 := keep_trans K3 hk4.keep
              obtain ⟨l2, hl2⟩ : ∃ l2, others.set w l[w] = l2 := ⟨_, rfl⟩
              rw [hl2] at r4
              have hl2n : l2.length = n := by rw [← hl2, List.length_set]; omega
              have hl2w : ∀ hh : w < l2.length, l2[w] = l[w] := fun hh => by subst hl2; simp
              conv => cbv
              refine CallS.spec (open36_spec r4) rfl fun B5 M5 v5 hB5 hlt5 hk5 hn5 ⟨u5, ev5, aa5, ak5, qa5, qk5, eu5, ra5, rq5⟩ => ⟨.tup [MA aa5 (openR l2).acts.length ak5 qa5 (openR l2).log.length qk5, EA (meetC l2 [])], rfl, (by rw [ev5, eu5]; rfl), ?_⟩
              have K5 := keep_trans K4 hk5.keep
              conv => cbv
              refine ⟨fun e1 => ?_, fun e1 => ?_⟩
              · exact hK.ground rfl (Keeps.of_keep K5) rfl
              · replace e1 := of_decide_eq_false e1
                try simp only [nc] at e1
                try simp only [minF_t] at e1
                try simp only [minF_f] at e1
                try dsimp only at e1
                have e1 : meetC l [] = 0 := by omega
                refine ⟨fun e2 => ?_, fun e2 => ?_⟩
                · exact hK.ground rfl (Keeps.of_keep K5) rfl
                · replace e2 := of_decide_eq_false e2
                  try simp only [nc] at e2
                  try simp only [minF_t] at e2
                  try simp only [minF_f] at e2
                  try dsimp only at e2
                  have e2 : meetC l2 [] = 0 := by omega
                  have o1 : openR l = ⟨l, []⟩ := by rw [openR, if_pos e1]
                  have o2 : openR l2 = ⟨l2, []⟩ := by rw [openR, if_pos e2]
                  rw [o1] at ra3 rq3
                  rw [o2] at ra5 rq5
                  have k35 := keep_trans hk4.keep hk5.keep
                  have rR : ∀ (x : List ActV) (y : List QV), meetC x [] = 0 → y.length ≤ 30 → runR ⟨x, []⟩ y = runM ⟨x, []⟩ y 0 := fun x y hx hy => by
                    rw [runR, if_neg (fun k => k hx), if_neg (by omega)]
                  have hq30 : q.length ≤ 30 := by omega
                  have s6 := run_spec (ra3.up ElA.up (le_of_keep k35)) (rq3.up ElQ.up (le_of_keep k35)) (hq.up ElQ.up (le_of_keep K5))
                  have er1 := rR l q e1 hq30
                  obtain ⟨ra, hra⟩ : ∃ ra, runM ⟨l, []⟩ q 0 = ra := ⟨_, rfl⟩
                  rw [hra] at er1
                  rw [show runR ⟨(⟨l, []⟩ : MtV).acts, (⟨l, []⟩ : MtV).log⟩ q = ra from er1] at s6
                  rw [o1, o2]
                  refine CallS.spec s6 rfl fun B6 M6 v6 hB6 hlt6 hk6 hn6 ⟨u6, ev6, aa6, ak6, qa6, qk6, eu6, ra6, rq6⟩ => ⟨.tup [MA aa6 ra.1.acts.length ak6 qa6 ra.1.log.length qk6, EA (ra.2.1 : Nat), EA ra.2.2], rfl, (by rw [ev6, eu6]; rfl), ?_⟩
                  have K6 := keep_trans K5 hk6.keep
                  conv => cbv
                  refine ⟨fun e3 => ?_, fun e3 => ?_⟩
                  · exact hK.ground rfl (Keeps.of_keep K6) rfl
                  · replace e3 := of_decide_eq_false e3
                    try simp only [nc] at e3
                    try simp only [minF_t] at e3
                    try simp only [minF_f] at e3
                    try dsimp only at e3
                    have e3 : ra.2.2 = 0 := by omega
                    have rok := runM_ok q ⟨l, []⟩ 0
                    rw [hra] at rok
                    have rhi := rok.hi
                    have rfin := rok.fin.1 e3
                    obtain ⟨L, g1', g2', g3'⟩ := rok.log
                    have ralen : ra.1.log.length = q.length := by
                      rw [g1', List.length_append, g2']; simp; omega
                    have hal := alone1 q ⟨l, []⟩ ⟨l2, []⟩ 0 0 w hwl (by show w < l2.length; omega) (hl2w (by omega)).symm rfl (by simp; omega) (by rw [hra]; exact e3)
                    rw [hra] at hal
                    obtain ⟨hal1, hal2⟩ := hal
                    have hofl := ofL_le q (w : Nat)
                    obtain ⟨ol, hol⟩ : ∃ ol, ofL q (w : Nat) = ol := ⟨_, rfl⟩
                    refine CallS.spec (refOf_spec (hq.up ElQ.up (le_of_keep K6)) (by omega) (w : Nat)) rfl fun B7 M7 v7 hB7 hlt7 hk7 hn7 ⟨a7, k7, ev7, h7⟩ => ⟨SA a7 (ofL q (w : Nat)).length k7, rfl, ev7.symm, ?_⟩
                    rw [hol] at hal1 hal2 hofl h7 ⊢
                    have K7 := keep_trans K6 hk7.keep
                    conv => cbv
                    have k57 := keep_trans hk6.keep hk7.keep
                    have s8 := run_spec (ra5.up ElA.up (le_of_keep k57)) (rq5.up ElQ.up (le_of_keep k57)) h7
                    have er2 := rR l2 ol e2 (by omega)
                    obtain ⟨rb, hrb⟩ : ∃ rb, runM ⟨l2, []⟩ ol 0 = rb := ⟨_, rfl⟩
                    rw [hrb] at er2 hal1 hal2
                    rw [show runR ⟨(⟨l2, []⟩ : MtV).acts, (⟨l2, []⟩ : MtV).log⟩ ol = rb from er2] at s8
                    have hb1 : rb.2.1 = ol.length := by rw [hal1]; simp
                    have hb2 : rb.2.2 = 0 := by rw [hal1]
                    refine CallS.spec s8 rfl fun B8 M8 v8 hB8 hlt8 hk8 hn8 ⟨u8, ev8, aa8, ak8, qa8, qk8, eu8, ra8, rq8⟩ => ⟨.tup [MA aa8 rb.1.acts.length ak8 qa8 rb.1.log.length qk8, EA (ol.length : Nat), .int .i64 0], rfl, (by rw [ev8, eu8, hb1, hb2]; rfl), ?_⟩
                    have K8 := keep_trans K7 hk8.keep
                    conv => cbv
                    refine CallS.spec (refOf_spec (hq.up ElQ.up (le_of_keep K8)) (by omega) (w : Nat)) rfl fun B9 M9 v9 hB9 hlt9 hk9 hn9 ⟨a9, k9, ev9, h9⟩ => ⟨SA a9 (ofL q (w : Nat)).length k9, rfl, ev9.symm, ?_⟩
                    rw [hol]
                    have K9 := keep_trans K8 hk9.keep
                    conv => cbv
                    refine ⟨fun x => absurd rfl (of_decide_eq_true x), fun _ => ?_⟩
                    have k69 := keep_trans hk7.keep (keep_trans hk8.keep hk9.keep)
                    have rq6 := rq6.up ElQ.up (le_of_keep k69)
                    have rq8 := rq8.up ElQ.up hk9.le
                    refine CallS.spec (refOf_spec rq6 (by omega) (w : Nat)) rfl fun B10 M10 v10 hB10 hlt10 hk10 hn10 ⟨a10, k10, ev10, h10⟩ => ⟨SA a10 (ofL ra.1.log (w : Nat)).length k10, rfl, ev10.symm, ?_⟩
                    have K10 := keep_trans K9 hk10.keep
                    have hofl2 := ofL_le ra.1.log (w : Nat)
                    conv => cbv
                    refine CallS.pure (sameLogs_spec h10 (rq8.up ElQ.up hk10.le) (by omega)) rfl .tt rfl (by rw [decide_eq_true hal2]; rfl) ?_
                    conv => cbv
                    refine CallS.spec (of_spec (rq6.up ElQ.up hk10.le) (by omega) (w : Nat)) rfl fun B11 M11 v11 hB11 hlt11 hk11 hn11 ⟨a11, k11, ev11, h11⟩ => ⟨SA a11 (ofL ra.1.log (w : Nat)).length k11, rfl, ev11.symm, ?_⟩
                    have K11 := keep_trans K10 hk11.keep
                    conv => cbv
                    have k911 := keep_trans hk10.keep hk11.keep
                    have rq6 := rq6.up ElQ.up (le_of_keep k911)
                    have rq8 := rq8.up ElQ.up (le_of_keep k911)
                    refine CallS.pure (sameLogs_spec h11 rq8 (by omega)) rfl .tt rfl (by rw [decide_eq_true hal2]; rfl) ?_
                    conv => cbv
                    have k511 := keep_trans k57 (keep_trans hk8.keep (keep_trans hk9.keep k911))
                    have s12 := run_spec (ra5.up ElA.up (le_of_keep k511)) (rq5.up ElQ.up (le_of_keep k511)) (hq.up ElQ.up (le_of_keep K11))
                    have er3 := rR l2 q e2 hq30
                    have rok2 := runM_ok q ⟨l2, []⟩ 0
                    have hal3 := alone2 q ⟨l, []⟩ ⟨l2, []⟩ 0 w hwl (by show w < l2.length; omega) (hl2w (by omega)).symm rfl (by simp; omega) (by simp; omega) (by rw [hra]; exact e3)
                    have htk := runM_take (m := ⟨l, []⟩) (q := q) (i := (runM ⟨l2, []⟩ q 0).2.1) (by have := rok2.hi; omega) rfl (by rw [hra]; exact e3)
                    rw [Nat.sub_zero, ← htk, hra] at hal3
                    obtain ⟨rc, hrc⟩ : ∃ rc, runM ⟨l2, []⟩ q 0 = rc := ⟨_, rfl⟩
                    rw [hrc] at er3 rok2 hal3
                    rw [show runR ⟨(⟨l2, []⟩ : MtV).acts, (⟨l2, []⟩ : MtV).log⟩ q = rc from er3] at s12
                    have chi := rok2.hi
                    have cfin := rok2.fin
                    have clen : rc.1.log.length = rc.2.1 := by
                      obtain ⟨L', c1', c2', _⟩ := rok2.log
                      rw [c1', List.length_append, c2']; simp
                    refine CallS.spec s12 rfl fun B12 M12 v12 hB12 hlt12 hk12 hn12 ⟨u12, ev12, aa12, ak12, qa12, qk12, eu12, ra12, rq12⟩ => ⟨.tup [MA aa12 rc.1.acts.length ak12 qa12 rc.1.log.length qk12, EA (rc.2.1 : Nat), EA rc.2.2], rfl, (by rw [ev12, eu12]; rfl), ?_⟩
                    have K12 := keep_trans K11 hk12.keep
                    have rq6 := rq6.up ElQ.up hk12.le
                    have hcap := rq6.le
                    conv => cbv
                    refine ⟨fun x => absurd (of_decide_eq_true x) (by show ¬ ((rc.2.1 : Nat) : Int) < 0; omega), fun _ => ?_⟩
                    refine ⟨fun x => absurd (of_decide_eq_true x) (by show ¬ (qn : Int) < ((rc.2.1 : Nat) : Int); omega), fun _ => ?_⟩
                    have fin : ∀ {p : AV → Prop} {f1 : Unit → Nat}, (p (.slice (fun _ => if qk6 = 0 then qa6 else qa6.map (·.add (0 * 8))) (fun _ => rc.2.1 - 0) (fun _ => qk6 - 0))) → f1 () = qk6 → SliceS 8 (fun _ => qa6) (fun _ => ra.1.log.length) f1 none (some fun _ => minF false ((rc.2.1 : Nat) : Int) ((ra.1.log.length : Nat) : Int)) none p := fun {p f1} hp hf => by
                      refine .mk 0 rc.2.1 qk6 rfl ?_ (by show ((f1 () : Nat) : Int) = _; rw [hf]) (fun h => by cases h) (Nat.zero_le _) (by omega) (by rw [hf]; exact Nat.le_refl _) hp
                      show minF false ((rc.2.1 : Nat) : Int) ((ra.1.log.length : Nat) : Int) = _
                      unfold minF
                      rw [if_neg (by simp), if_neg (by omega)]
                    refine ⟨fun j1 => ?_, fun j1 => ?_⟩
                    · replace j1 := of_decide_eq_true j1
                      try simp only [nc] at j1
                      try simp only [minF_t] at j1
                      try simp only [minF_f] at j1
                      try dsimp only at j1
                      have := cfin.1 j1
                      refine ⟨fun j2 => ?_, fun j2 => ?_⟩
                      · replace j2 := of_decide_eq_true j2
                        try simp only [nc] at j2
                        try simp only [minF_t] at j2
                        try simp only [minF_f] at j2
                        try dsimp only at j2
                        omega
                      · refine fin ?_ rfl
                        conv => cbv
                        refine CallS.spec (refOf_spec (rq6.slicePre rc.2.1 (by omega)) (by omega) (w : Nat)) rfl fun B13 M13 v13 hB13 hlt13 hk13 hn13 ⟨a13, k13, ev13, h13⟩ => ⟨SA a13 (ofL (ra.1.log.take rc.2.1) (w : Nat)).length k13, rfl, ev13.symm, ?_⟩
                        conv => cbv
                        refine CallS.spec (refOf_spec (rq12.up ElQ.up hk13.le) (by omega) (w : Nat)) rfl fun B14 M14 v14 hB14 hlt14 hk14 hn14 ⟨a14, k14, ev14, h14⟩ => ⟨SA a14 (ofL rc.1.log (w : Nat)).length k14, rfl, ev14.symm, ?_⟩
                        conv => cbv
                        refine CallS.pure (sameLogs_spec (h13.up ElQ.up hk14.le) h14 (by have := ofL_le (ra.1.log.take rc.2.1) (w : Nat); rw [List.length_take] at this; omega)) rfl .tt rfl (by rw [decide_eq_true hal3]; rfl) ?_
                        conv => cbv
                        exact hK.ground rfl (Keeps.of_keep (keep_trans K12 (keep_trans hk13.keep hk14.keep))) rfl
                    · refine fin ?_ rfl
                      conv => cbv
                      refine CallS.spec (refOf_spec (rq6.slicePre rc.2.1 (by omega)) (by omega) (w : Nat)) rfl fun B13 M13 v13 hB13 hlt13 hk13 hn13 ⟨a13, k13, ev13, h13⟩ => ⟨SA a13 (ofL (ra.1.log.take rc.2.1) (w : Nat)).length k13, rfl, ev13.symm, ?_⟩
                      conv => cbv
                      refine CallS.spec (refOf_spec (rq12.up ElQ.up hk13.le) (by omega) (w : Nat)) rfl fun B14 M14 v14 hB14 hlt14 hk14 hn14 ⟨a14, k14, ev14, h14⟩ => ⟨SA a14 (ofL rc.1.log (w : Nat)).length k14, rfl, ev14.symm, ?_⟩
                      conv => cbv
                      refine CallS.pure (sameLogs_spec (h13.up ElQ.up hk14.le) h14 (by have := ofL_le (ra.1.log.take rc.2.1) (w : Nat); rw [List.length_take] at this; omega)) rfl .tt rfl (by rw [decide_eq_true hal3]; rfl) ?_
                      conv => cbv
                      exact hK.ground rfl (Keeps.of_keep (keep_trans K12 (keep_trans hk13.keep hk14.keep))) rfl

end Go.SX
