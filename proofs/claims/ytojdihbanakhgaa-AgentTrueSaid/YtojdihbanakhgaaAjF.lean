/- Layer 36: the reference tells who is honest. -/
import Derived.Test.YtojdihbanakhgaaAjE
namespace Go.SX
open Go.Proofs.Try Go.Proofs

theorem firstE_zero : ∀ {l : List CakeV}, (∀ c ∈ l, checkC c = 0) → firstE l = 0
  | [], _ => rfl
  | x :: l, h => by
    simp only [firstE]
    rw [if_neg (fun e => e (h x (by simp)))]
    exact firstE_zero fun c hc => h c (by simp [hc])

theorem desk_of_meet {acts : List ActV} {log : List QV} (h : meetC acts log = 0) (told : Bool) {n : Nat} (hn : n ≤ 2000) : deskC (cakesL acts told) n = 0 := by
  obtain ⟨d1, d2, d3, d4, d5⟩ := meetC_ok h
  have hl : (cakesL acts told).length = acts.length := by simp [cakesL]
  rw [deskC_ne (by omega) (by omega), if_neg, if_pos]
  · refine List.all_eq_true.2 fun c hc => ?_
    have : ∀ d ∈ cakesL acts told, d.len = (acts.headD ⟨⟨0, [], []⟩, ⟨0, [], []⟩, 0, 0⟩).own.len := fun d hd => by
      obtain ⟨x, hx, rfl⟩ := List.mem_map.1 hd
      obtain ⟨i, hi, rfl⟩ := List.getElem_of_mem hx
      obtain ⟨k1, k2, _⟩ := d5 i hi
      cases told
      · exact k1
      · exact k2
    exact decide_eq_true ((this c hc).trans (this _ (List.getElem_mem (by omega))).symm)
  · intro e
    refine e (firstE_zero fun c hc => ?_)
    obtain ⟨x, hx, rfl⟩ := List.mem_map.1 hc
    obtain ⟨k1, k2⟩ := d4 x hx
    cases told
    · exact k1
    · exact k2

theorem replL_len {cs : List CakeV} : ∀ (l : List QV) (i : Nat), i ≤ replL cs l i ∧ replL cs l i ≤ i + l.length ∧ (replL cs l i = i + l.length ↔ l.all (rightC cs) = true)
  | [], i => by simp [replL]
  | q :: l, i => by
    obtain ⟨k1, k2, k3⟩ := replL_len (cs := cs) l (i + 1)
    simp only [replL, List.all_cons, List.length_cons, Bool.and_eq_true]
    split
    · rename_i h1
      refine ⟨by omega, by omega, ?_⟩
      rw [← k3]
      constructor
      · intro e; exact ⟨h1, by omega⟩
      · intro e; omega
    · rename_i h1
      refine ⟨by omega, by omega, ?_⟩
      constructor
      · intro e; omega
      · intro e; exact absurd e.1 h1

theorem honB_eq {cs : List CakeV} {l : List QV} (h : deskC cs l.length = 0) : honB cs l = l.all (rightC cs) := by
  obtain ⟨k1, k2, k3⟩ := replL_len (cs := cs) l 0
  rw [honB, replayC, if_neg (by omega)]
  simp only [decide_true, Bool.true_and]
  rw [Bool.eq_iff_iff, ← k3, decide_eq_true_iff]
  omega

theorem honL_snoc (m : MtV) {i : Nat} (hi : i < m.acts.length) : (honL m).take (i + 1) = (honL m).take i ++ [honB (cakesL m.acts false) (ofL m.log (i : Nat))] := by
  rw [take_snoc (show i < (honL m).length by simp [honL]; exact hi)]
  simp [honL]

set_option maxHeartbeats 1000000 in
set_option maxRecDepth 100000 in
theorem refHonest_spec {acts : List ActV} {log : List QV} {M : Mem} {aa qa : Option Addr} {an ak qn qk : Nat} (h : RActs M aa an ak acts) (hq : RQ M qa qn qk log) :
    Spec 55 #[MV aa an ak qa qn qk] M fun _ M' v => HonPost ⟨acts, log⟩ M' v := by
  have hn := h.len
  have hqn := hq.len
  refine ok55.spec 300 [MA aa an ak qa qn qk] rfl (by kernel_rfl) fun c K hK => ?_
  conv => cbv
  refine CallS.spec (refMeet_spec h hq) rfl fun B1 M1 v1 hB1 hlt1 hk1 hn1 ev1 => ⟨EA (meetC acts log), rfl, ev1.symm, ?_⟩
  conv => cbv
  refine ⟨fun h1 => ?_, fun h1 => ?_⟩
  · replace h1 := of_decide_eq_true h1
    try simp only [nc] at h1
    try simp only [minF_t] at h1
    try simp only [minF_f] at h1
    try dsimp only at h1
    have e : honR ⟨acts, log⟩ = ([], meetC acts log) := by rw [honR, if_pos h1]
    refine hK.ground rfl hk1 ?_
    unfold HonPost
    rw [e]
    exact ⟨none, 0, rfl, RdL.nil' ..⟩
  · replace h1 := of_decide_eq_false h1
    try simp only [nc] at h1
    try simp only [minF_t] at h1
    try simp only [minF_f] at h1
    try dsimp only at h1
    have h1 : meetC acts log = 0 := by omega
    have e : honR ⟨acts, log⟩ = (honL ⟨acts, log⟩, 0) := by rw [honR, if_neg (fun k => k h1)]
    unfold HonPost at hK
    rw [e] at hK
    obtain ⟨d1, d2, d3, d4, d5⟩ := meetC_ok h1
    obtain ⟨bs, hbs⟩ : ∃ bs, honL ⟨acts, log⟩ = bs := ⟨_, rfl⟩
    have hbl : bs.length = acts.length := by rw [← hbs]; simp [honL]
    have hsn := fun i (hi : i < acts.length) => honL_snoc ⟨acts, log⟩ hi
    rw [hbs] at hK hsn
    refine CallS.spec (cakes36_spec (h.up ElA.up hk1.le) (by omega) false) rfl fun B2 M2 v2 hB2 hlt2 hk2 hn2 ⟨ca, ck, ev2, rc2⟩ => ⟨SA ca an ck, rfl, ev2.symm, ?_⟩
    have kp2 := keep_trans hk1.keep hk2.keep
    have hcl : (cakesL acts false).length = acts.length := by simp [cakesL]
    conv => cbv
    refine OKS.loopH (fun (p : Nat × Mem × Option Addr × Nat) => p.1 ≤ an ∧ Own c p.2.1 4 1 p.2.2.1 p.1 p.2.2.2 ((bs.take p.1).map Value.bool) ∧ M2.le p.2.1 ∧ ∀ b, M b ≠ none → p.2.1 b = M b)
      (fun p => [(7, EA p.1), (6, SA p.2.2.1 p.1 p.2.2.2)]) (fun _ => []) (fun p => p.2.1) (fun p => an - p.1) (0, M2, none, 0) ⟨by simp, by simpa using Own.nil .., Mem.le_refl _, kp2⟩ ?_ ?_
    · refine ⟨by cbv <;> simp, by cbv <;> simp, by cbv, Mem.le_refl _⟩
    · intro ⟨i, Mi, a', k'⟩ ⟨hi1, hown, hle, hkp⟩ ih
      simp only at hi1 hown hle hkp
      refine ok55.go 100 (by kernel_rfl) ?_
      conv => cbv
      refine ⟨fun l1 => ?_, fun l1 => ?_⟩
      · replace l1 := of_decide_eq_true l1
        try simp only [nc] at l1
        try simp only [minF_t] at l1
        try simp only [minF_f] at l1
        try dsimp only at l1
        have hi : i < acts.length := by omega
        refine CallS.spec (refOf_spec (hq.up ElQ.up (le_of_keep hkp)) (by omega) (i : Nat)) rfl fun B3 M3 v3 hB3 hlt3 hk3 hn3 ⟨a3, k3, ev3, rq3⟩ => ⟨SA a3 (ofL log (i : Nat)).length k3, rfl, ev3.symm, ?_⟩
        have hsn := hsn i hi
        have hol := ofL_le log (i : Nat)
        simp only at hsn
        rw [honB_eq (desk_of_meet h1 false (by omega))] at hsn
        obtain ⟨l, hl⟩ : ∃ l, ofL log (i : Nat) = l := ⟨_, rfl⟩
        rw [hl] at rq3 hsn hol
        simp only [hl]
        have kp3 := keep_trans hkp hk3.keep
        have hc3 : RC M3 ca an ck (cakesL acts false) := rc2.up ElC.up (Mem.le_trans hle hk3.le)
        conv => cbv
        refine OKS.loopH (fun (p : Nat × Bool) => p.1 ≤ l.length ∧ p.2 = (l.take p.1).all (rightC (cakesL acts false)))
          (fun p => [(10, EA p.1), (8, .sb fun _ => p.2)]) (fun _ => []) (fun _ => M3) (fun p => l.length - p.1) (0, true) ⟨by simp, by simp⟩ ?_ ?_
        · refine ⟨by cbv <;> simp, by cbv <;> simp, by cbv, Mem.le_refl _⟩
        · intro ⟨j, g⟩ ⟨hj1, hj2⟩ ih2
          simp only at hj1 hj2
          refine ok55.go 100 (by kernel_rfl) ?_
          conv => cbv
          refine ⟨fun l2 => ?_, fun l2 => ?_⟩
          · replace l2 := of_decide_eq_true l2
            try simp only [nc] at l2
            try simp only [minF_t] at l2
            try simp only [minF_f] at l2
            try dsimp only at l2
            obtain ⟨b, o, ea, hp, hw⟩ := rq3.query (i := j) (by omega)
            have htk : (l.take (j + 1)).all (rightC (cakesL acts false)) = (g && rightC (cakesL acts false) l[j]) := by
              rw [take_snoc (show j < l.length by omega), List.all_append, ← hj2]
              simp
            refine ⟨fun l3 => ?_, fun l3 => ?_⟩
            · replace l3 : g = true := l3
              refine .mk b o j ea rfl (by show j < l.length; omega) ?_
              conv => cbv
              refine .mk l[j].avs rfl rfl hp ?_
              conv => cbv
              refine CallS.pure (right04_spec hc3 hw) rfl (.sb fun _ => rightC (cakesL acts false) l[j]) rfl rfl ?_
              conv => cbv
              refine .i64 ((j + 1 : Nat) : Int) (by show (j : Int) + 1 = _; omega) (by omega) (by omega) ?_
              conv => cbv
              refine ih2 (j + 1, rightC (cakesL acts false) l[j]) ⟨by simp only; omega, by simp only; rw [htk, l3, Bool.true_and]⟩ (by simp only; omega) _ ?_
              refine ⟨by cbv <;> simp, by cbv <;> simp, by cbv, Mem.le_refl _⟩
            · replace l3 : g = false := l3
              refine .i64 ((j + 1 : Nat) : Int) (by show (j : Int) + 1 = _; omega) (by omega) (by omega) ?_
              conv => cbv
              refine ih2 (j + 1, false) ⟨by simp only; omega, by simp only; rw [htk, l3, Bool.false_and]⟩ (by simp only; omega) _ ?_
              refine ⟨by cbv <;> simp, by cbv <;> simp, by cbv, Mem.le_refl _⟩
          · replace l2 := of_decide_eq_false l2
            try simp only [nc] at l2
            try simp only [minF_t] at l2
            try simp only [minF_f] at l2
            try dsimp only at l2
            have e5 : l.take j = l := List.take_of_length_le (by omega)
            rw [e5] at hj2
            refine .mk trivial fun b4 M4 n4 B4 e4 => ?_
            have f4 : M4 = M3.set b4 (.row 4 1 [Value.bool g]) := e4
            have k4 : ∀ b, M3 b ≠ none → M4 b = M3 b := by rw [f4]; exact keep_set n4
            conv => cbv
            refine AppS.own (t := 86) (e := 4) (ti := ti86) (ei := ti4) rfl rfl rfl (by decide) rfl (x := SA a' i k') (y := SA _ 1 1) rfl ((hown.keep hk3.keep).keep k4) rfl (CellsAt.new f4) rfl (by intro u hu; rw [List.mem_singleton] at hu; subst hu; rfl) (by simp only [maxLen]; omega) (by show (i + 1) * 1 ≤ _; omega) fun M5 a5 k5 h5 g5 => ?_
            have h5' : Own c M5 4 1 a5 (i + 1) k5 ((bs.take (i + 1)).map Value.bool) := by
              rw [hsn, List.map_append, ← hj2]
              exact h5
            conv => cbv
            refine .i64 ((i + 1 : Nat) : Int) (by show (i : Int) + 1 = _; omega) (by omega) (by omega) ?_
            conv => cbv
            refine ih (i + 1, M5, a5, k5) ⟨by simp only; omega, h5', Mem.le_trans (Mem.le_trans (Mem.le_trans hle hk3.le) (le_of_keep k4)) g5.le, ?_⟩ (by simp only; omega) _ ?_
            · intro b hb
              show M5 b = M b
              have e6 := kp3 b hb
              rw [g5.keep b (by rw [k4 b (by rw [e6]; exact hb), e6]; exact hb) ?_, k4 b (by rw [e6]; exact hb), e6]
              intro g' hga e7
              rcases hown.row with ⟨e8, _⟩ | ⟨g'', e8, e9, _⟩
              · rw [e8] at hga; cases hga
              · rw [e8] at hga
                cases hga
                have := hK.lt b hb
                rcases e9 with e9 | e9
                · omega
                · rw [hK.lent] at e9; cases e9
            · refine ⟨by cbv <;> simp, by cbv <;> simp, by cbv, Mem.le_refl _⟩
      · replace l1 := of_decide_eq_false l1
        try simp only [nc] at l1
        try simp only [minF_t] at l1
        try simp only [minF_f] at l1
        try dsimp only at l1
        have : i = bs.length := by omega
        subst this
        rw [List.take_length] at hown
        refine hK.ground rfl (Keeps.of_keep hkp) ⟨a', k', rfl, ?_⟩
        rcases hown.row with ⟨e1, e2, e3⟩ | ⟨gg, e1, e2, e3, e4, e6⟩
        · omega
        · subst e1
          exact RB.new e3 e4

end Go.SX
