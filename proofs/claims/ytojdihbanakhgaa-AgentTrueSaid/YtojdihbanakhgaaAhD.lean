/- Layer 36: cakes of actors, great meetings, meetings compared. -/
import Derived.Test.YtojdihbanakhgaaMeetA
import Derived.Test.YtojdihbanakhgaaSxFn3
namespace Go.SX
open Go.Proofs.Try Go.Proofs

def cakesL (l : List ActV) (told : Bool) : List CakeV := l.map fun x => if told then x.told else x.own

theorem cakesL_take (l : List ActV) (told : Bool) {i : Nat} (hi : i < l.length) : cakesL (l.take (i + 1)) told = cakesL (l.take i) told ++ [if told then l[i].told else l[i].own] := by
  unfold cakesL
  rw [take_snoc hi, List.map_append]
  rfl

theorem AP.at_own {M : Mem} {b o : Nat} {p : AP} (h : CellsAt M b o p.cells) : CellsAt M b o p.own.cells := ⟨h.1, h.2.1, h.2.2.1, trivial⟩
theorem AP.at_told {M : Mem} {b o : Nat} {p : AP} (h : CellsAt M b o p.cells) : CellsAt M b (o + 3) p.told.cells := ⟨h.2.2.2.1, h.2.2.2.2.1, h.2.2.2.2.2.1, trivial⟩
theorem AP.at_after {M : Mem} {b o : Nat} {p : AP} (h : CellsAt M b o p.cells) : M.cell b (o + 6) = some (EV p.after) := h.2.2.2.2.2.2.1
theorem AP.at_asked {M : Mem} {b o : Nat} {p : AP} (h : CellsAt M b o p.cells) : M.cell b (o + 7) = some (EV p.asked) := h.2.2.2.2.2.2.2.1

set_option maxRecDepth 100000 in
theorem cakes36_spec {l : List ActV} {a : Option Addr} {n k : Nat} {M : Mem} (h : RActs M a n k l) (hs : n ≤ 1000) (told : Bool) :
    Spec 68 #[SV a n k, .bool told] M fun _ M' v => ∃ a' k', v = SV a' n k' ∧ RC M' a' n k' (cakesL l told) := by
  have hn := h.len
  refine ok68.spec 200 [SA a n k, .sb fun _ => told] rfl (by kernel_rfl) fun c K hK => ?_
  conv => cbv
  refine OKS.loopH (fun (p : Nat × Mem × Option Addr × Nat) => p.1 ≤ n ∧ OwnL ElC c p.2.1 40 3 p.2.2.1 p.1 p.2.2.2 (cakesL (l.take p.1) told) ∧ ∀ b, M b ≠ none → p.2.1 b = M b)
    (fun p => [(5, SA p.2.2.1 p.1 p.2.2.2), (6, EA p.1)]) (fun _ => []) (fun p => p.2.1) (fun p => n - p.1) (0, M, none, 0) ⟨by simp, OwnL.nil, fun _ _ => rfl⟩ ?_ ?_
  · refine ⟨by cbv <;> simp, by cbv <;> simp, by cbv, Mem.le_refl _⟩
  · intro ⟨i, Mi, a', k'⟩ ⟨hi1, hown, hkp⟩ ih
    simp only at hi1 hown hkp
    have hcM : RActs Mi a n k l := h.up ElA.up (le_of_keep hkp)
    refine ok68.go 100 (by kernel_rfl) ?_
    conv => cbv
    refine ⟨fun l1 => ?_, fun l1 => ?_⟩
    · replace l1 := of_decide_eq_true l1
      try simp only [nc] at l1
      try simp only [minF_t] at l1
      try simp only [minF_f] at l1
      try dsimp only at l1
      obtain ⟨b, o, p, ea, hp, hak⟩ := hcM.actor (i := i) (by omega)
      have hsn := cakesL_take l told (i := i) (by omega)
      refine ⟨fun l2 => ?_, fun l2 => ?_⟩
      · replace l2 : told = true := l2
        subst l2
        refine .mk b o i ea rfl (by show i < n; omega) ?_
        conv => cbv
        refine .mk p.told.avs rfl rfl (AP.at_told hp) ?_
        conv => cbv
        refine .mk trivial fun b3 M3 hn3 hB3 hM3 => ?_
        conv => cbv
        have hM3' : M3 = Mi.set b3 (.row 40 3 p.told.cells) := hM3
        have kp3 : ∀ b, Mi b ≠ none → M3 b = Mi b := by rw [hM3']; exact keep_set hn3
        have hown3 := hown.keep ElC.up kp3
        have hone : RC M3 (some ⟨b3, 0, none⟩) 1 1 [l[i].told] := RdL.one (fun _ _ _ => trivial) (CellsAt.new hM3') rfl ⟨_, rfl, hak.told.up (le_of_keep kp3)⟩ (by omega)
        refine AppS.list (t := 53) (ti := ti53) (ei := ti40) rfl rfl rfl (by decide) rfl ElC.up ElC.one hown3 hone (by simp only [maxLen]; omega) (by show (i + 1) * 56 ≤ _; omega) fun M4 a4 k4 h4 g4 => ?_
        conv => cbv
        refine .i64 ((i + 1 : Nat) : Int) (by show (i : Int) + 1 = _; omega) (by omega) (by omega) ?_
        conv => cbv
        refine ih (i + 1, M4, a4, k4) ⟨by simp only; omega, by rw [hsn]; exact h4, keep_app (keep_trans hkp kp3) hK.lt hK.lent hown3 g4⟩ (by simp only; omega) _ ?_
        refine ⟨by cbv <;> simp, by cbv <;> simp, by cbv, Mem.le_refl _⟩
      · replace l2 : told = false := l2
        subst l2
        refine .mk b o i ea rfl (by show i < n; omega) ?_
        conv => cbv
        refine .mk p.own.avs rfl rfl (AP.at_own hp) ?_
        conv => cbv
        refine .mk trivial fun b3 M3 hn3 hB3 hM3 => ?_
        conv => cbv
        have hM3' : M3 = Mi.set b3 (.row 40 3 p.own.cells) := hM3
        have kp3 : ∀ b, Mi b ≠ none → M3 b = Mi b := by rw [hM3']; exact keep_set hn3
        have hown3 := hown.keep ElC.up kp3
        have hone : RC M3 (some ⟨b3, 0, none⟩) 1 1 [l[i].own] := RdL.one (fun _ _ _ => trivial) (CellsAt.new hM3') rfl ⟨_, rfl, hak.own.up (le_of_keep kp3)⟩ (by omega)
        refine AppS.list (t := 53) (ti := ti53) (ei := ti40) rfl rfl rfl (by decide) rfl ElC.up ElC.one hown3 hone (by simp only [maxLen]; omega) (by show (i + 1) * 56 ≤ _; omega) fun M4 a4 k4 h4 g4 => ?_
        conv => cbv
        refine .i64 ((i + 1 : Nat) : Int) (by show (i : Int) + 1 = _; omega) (by omega) (by omega) ?_
        conv => cbv
        refine ih (i + 1, M4, a4, k4) ⟨by simp only; omega, by rw [hsn]; exact h4, keep_app (keep_trans hkp kp3) hK.lt hK.lent hown3 g4⟩ (by simp only; omega) _ ?_
        refine ⟨by cbv <;> simp, by cbv <;> simp, by cbv, Mem.le_refl _⟩
    · replace l1 := of_decide_eq_false l1
      try simp only [nc] at l1
      try simp only [minF_t] at l1
      try simp only [minF_f] at l1
      try dsimp only at l1
      have : i = l.length := by omega
      subst this
      rw [List.take_length] at hown
      refine hK.ground rfl (Keeps.of_keep hkp) ⟨a', k', ?_, ?_⟩
      · simp only [AV.val, AV.den, hn]
      · rw [hn]; exact hown.rd

def greatA (l : List ActV) : Bool := decide (10 < l.length) || greatL (cakesL l false) || greatL (cakesL l true)
def greatM (acts : List ActV) (n : Nat) : Bool := greatA acts || (decide (30 < n) && decide (n ≤ 2000)) || decide (2005 < n)

set_option maxRecDepth 100000 in
theorem greatActs_spec {l : List ActV} {a : Option Addr} {n k : Nat} {M : Mem} (h : RActs M a n k l) : Spec 65 #[SV a n k] M fun _ _ v => v = .bool (greatA l) := by
  have hn := h.len
  refine ok65.spec 200 [SA a n k] rfl (by kernel_rfl) fun c K hK => ?_
  conv => cbv
  refine ⟨fun l1 => ?_, fun l1 => ?_⟩
  · replace l1 := of_decide_eq_true l1
    try simp only [nc] at l1
    try simp only [minF_t] at l1
    try simp only [minF_f] at l1
    try dsimp only at l1
    refine hK.ground rfl (Keeps.refl _ _) ?_
    rw [greatA, decide_eq_true (by omega)]
    rfl
  · replace l1 := of_decide_eq_false l1
    try simp only [nc] at l1
    try simp only [minF_t] at l1
    try simp only [minF_f] at l1
    try dsimp only at l1
    refine CallS.spec (cakes36_spec h (by omega) false) rfl fun B1 M1 v1 hB1 hlt1 hk1 hn1 ⟨a1, k1, ev1, h1⟩ => ⟨SA a1 n k1, rfl, ev1.symm, ?_⟩
    conv => cbv
    refine CallS.pure (greatCakes_spec h1 (by omega)) rfl (.sb fun _ => greatL (cakesL l false)) rfl rfl ?_
    conv => cbv
    refine ⟨fun l2 => ?_, fun l2 => ?_⟩
    · replace l2 : greatL (cakesL l false) = true := l2
      refine hK.ground rfl hk1 ?_
      rw [greatA, l2, decide_eq_false (by omega)]
      rfl
    · replace l2 : greatL (cakesL l false) = false := l2
      refine CallS.spec (cakes36_spec (h.up ElA.up hk1.le) (by omega) true) rfl fun B2 M2 v2 hB2 hlt2 hk2 hn2 ⟨a2, k2, ev2, h2⟩ => ⟨SA a2 n k2, rfl, ev2.symm, ?_⟩
      conv => cbv
      refine CallS.pure (greatCakes_spec h2 (by omega)) rfl (.sb fun _ => greatL (cakesL l true)) rfl rfl ?_
      conv => cbv
      refine hK.ground rfl (hk1.trans hk2) ?_
      rw [greatA, l2, decide_eq_false (by omega)]
      rfl

set_option maxRecDepth 100000 in
theorem greatMeet_spec {acts : List ActV} {M : Mem} {aa qa : Option Addr} {an ak qn qk : Nat} (h : RActs M aa an ak acts) : Spec 14 #[MV aa an ak qa qn qk] M fun _ _ v => v = .bool (greatM acts qn) := by
  refine ok14.spec 200 [MA aa an ak qa qn qk] rfl (by kernel_rfl) fun c K hK => ?_
  conv => cbv
  refine CallS.spec (greatActs_spec h) rfl fun B1 M1 v1 hB1 hlt1 hk1 hn1 ev1 => ⟨.sb fun _ => greatA acts, rfl, ev1.symm, ?_⟩
  conv => cbv
  refine ⟨fun g1 => ?_, fun g1 => ?_⟩
  · replace g1 : greatA acts = true := g1
    refine hK.ground rfl hk1 ?_
    rw [greatM, g1]
    rfl
  · replace g1 : greatA acts = false := g1
    refine ⟨fun g2 => ?_, fun g2 => ?_⟩
    · replace g2 := of_decide_eq_true g2
      try simp only [nc] at g2
      try simp only [minF_t] at g2
      try simp only [minF_f] at g2
      try dsimp only at g2
      refine ⟨fun g3 => ?_, fun g3 => ?_⟩
      · replace g3 := of_decide_eq_true g3
        try simp only [nc] at g3
        try simp only [minF_t] at g3
        try simp only [minF_f] at g3
        try dsimp only at g3
        refine hK.ground rfl hk1 ?_
        rw [greatM, g1, decide_eq_true (show 30 < qn by omega), decide_eq_true (show qn ≤ 2000 by omega)]
        rfl
      · replace g3 := of_decide_eq_false g3
        try simp only [nc] at g3
        try simp only [minF_t] at g3
        try simp only [minF_f] at g3
        try dsimp only at g3
        refine hK.ground rfl hk1 ?_
        rw [greatM, g1, decide_eq_false (show ¬ qn ≤ 2000 by omega), Bool.and_false, Bool.or_false, Bool.false_or]
        exact congrArg Value.bool (decide_eq_decide.2 (by show ((2005 : Int) < (qn : Int)) ↔ 2005 < qn; omega))
    · replace g2 := of_decide_eq_false g2
      try simp only [nc] at g2
      try simp only [minF_t] at g2
      try simp only [minF_f] at g2
      try dsimp only at g2
      refine hK.ground rfl hk1 ?_
      rw [greatM, g1, decide_eq_false (show ¬ 30 < qn by omega), Bool.false_and, Bool.or_false, Bool.false_or]
      exact congrArg Value.bool (decide_eq_decide.2 (by show ((2005 : Int) < (qn : Int)) ↔ 2005 < qn; omega))

theorem ActV.ext' {a b : ActV} (h1 : a.own = b.own) (h2 : a.told = b.told) (h3 : a.after = b.after) (h4 : a.asked = b.asked) : a = b := by cases a; cases b; simp_all

set_option maxHeartbeats 1000000 in
set_option maxRecDepth 100000 in
theorem sameMeet_spec {acts acts' : List ActV} {log log' : List QV} {M : Mem} {aa qa aa' qa' : Option Addr} {an ak qn qk an' ak' qn' qk' : Nat} (h : RActs M aa an ak acts) (hq : RQ M qa qn qk log) (h' : RActs M aa' an' ak' acts') (hq' : RQ M qa' qn' qk' log')
    (hb : an ≤ 4611686018427387904) (hbq : qn ≤ 4611686018427387904) (hz : ∀ x ∈ acts, x.own.cuts.length ≤ 1000 ∧ x.own.dens.length ≤ 1000 ∧ x.told.cuts.length ≤ 1000 ∧ x.told.dens.length ≤ 1000) :
    Pure1 17 #[MV aa an ak qa qn qk, MV aa' an' ak' qa' qn' qk'] M (.bool (decide (acts = acts' ∧ log = log'))) := by
  have hn := h.len
  have hn' := h'.len
  refine ok17.pure 200 [MA aa an ak qa qn qk, MA aa' an' ak' qa' qn' qk'] rfl (by kernel_rfl) fun c K hK => ?_
  conv => cbv
  refine ⟨fun h1 => ?_, fun h1 => ?_⟩
  · replace h1 := of_decide_eq_true h1
    try simp only [nc] at h1
    try simp only [minF_t] at h1
    try simp only [minF_f] at h1
    try dsimp only at h1
    refine hK.pure rfl (Mem.le_refl _) ?_
    rw [decide_eq_false fun e => list_ne' (by omega) e.1]
    rfl
  · replace h1 := of_decide_eq_false h1
    try simp only [nc] at h1
    try simp only [minF_t] at h1
    try simp only [minF_f] at h1
    try dsimp only at h1
    refine CallS.pure (sameLogs_spec hq hq' hbq) rfl (.sb fun _ => decide (log = log')) rfl rfl ?_
    conv => cbv
    refine ⟨fun h2 => ?_, fun h2 => ?_⟩
    · replace h2 : (!decide (log = log')) = true := h2
      have h2 : ¬ log = log' := by simpa using h2
      refine hK.pure rfl (Mem.le_refl _) ?_
      rw [decide_eq_false fun e => h2 e.2]
      rfl
    · replace h2 : (!decide (log = log')) = false := h2
      have h2 : log = log' := by simpa using h2
      refine OKS.loopH (fun i => i ≤ an ∧ ∀ j (h1 : j < acts.length) (h2 : j < acts'.length), j < i → acts[j] = acts'[j]) (fun i => [(5, EA i)]) (fun _ => [(6, .none), (7, .none)]) (fun _ => M) (fun i => an - i) 0 ⟨by omega, fun j _ _ h => by omega⟩ ?_ ?_
      · refine ⟨by cbv <;> simp, by cbv <;> simp, by cbv, Mem.le_refl _⟩
      · intro i ⟨hi1, hi2⟩ ih
        refine ok17.go 100 (by kernel_rfl) ?_
        conv => cbv
        refine ⟨fun l1 => ?_, fun l1 => ?_⟩
        · replace l1 := of_decide_eq_true l1
          try simp only [nc] at l1
          try simp only [minF_t] at l1
          try simp only [minF_f] at l1
          try dsimp only at l1
          obtain ⟨b, o, p, ea, hp, hck⟩ := h.actor (i := i) (by omega)
          obtain ⟨b', o', p', ea', hp', hck'⟩ := h'.actor (i := i) (by omega)
          refine .mk b o i ea rfl (by show i < an; omega) ?_
          conv => cbv
          refine .mk p.avs rfl rfl hp ?_
          conv => cbv
          refine .mk b' o' i ea' rfl (by show i < an'; omega) ?_
          conv => cbv
          refine .mk p'.avs rfl rfl hp' ?_
          conv => cbv
          have a1 := hck.after
          have a2 := hck.asked
          have a1' := hck'.after
          have a2' := hck'.asked
          have hz1 := hz _ (List.getElem_mem (show i < acts.length by omega))
          have z1 := hck.own.cuts.len
          have z2 := hck.own.dens.len
          have z3 := hck.told.cuts.len
          have z4 := hck.told.dens.len
          have bad : acts[i] ≠ acts'[i] → ¬ (acts = acts' ∧ log = log') := fun hne e => list_ne (j := i) (by omega) (by omega) hne e.1
          refine ⟨fun l2 => ?_, fun l2 => ?_⟩
          · replace l2 := of_decide_eq_true l2
            try simp only [nc] at l2
            try simp only [minF_t] at l2
            try simp only [minF_f] at l2
            try dsimp only at l2
            refine hK.pure rfl (Mem.le_refl _) ?_
            rw [decide_eq_false (bad fun e => l2 (by rw [a1, a1', e]))]
            rfl
          · replace l2 := of_decide_eq_false l2
            try simp only [nc] at l2
            try simp only [minF_t] at l2
            try simp only [minF_f] at l2
            try dsimp only at l2
            refine ⟨fun l3 => ?_, fun l3 => ?_⟩
            · replace l3 := of_decide_eq_true l3
              try simp only [nc] at l3
              try simp only [minF_t] at l3
              try simp only [minF_f] at l3
              try dsimp only at l3
              refine hK.pure rfl (Mem.le_refl _) ?_
              rw [decide_eq_false (bad fun e => l3 (by rw [a2, a2', e]))]
              rfl
            · replace l3 := of_decide_eq_false l3
              try simp only [nc] at l3
              try simp only [minF_t] at l3
              try simp only [minF_f] at l3
              try dsimp only at l3
              refine CallS.pure (same_spec hck.own hck'.own (by omega) (by omega)) rfl (.sb fun _ => decide (acts[i].own = acts'[i].own)) rfl rfl ?_
              conv => cbv
              refine ⟨fun l4 => ?_, fun l4 => ?_⟩
              · replace l4 : (!decide (acts[i].own = acts'[i].own)) = true := l4
                have l4 : ¬ acts[i].own = acts'[i].own := by simpa using l4
                refine hK.pure rfl (Mem.le_refl _) ?_
                rw [decide_eq_false (bad fun e => l4 (by rw [e]))]
                rfl
              · replace l4 : (!decide (acts[i].own = acts'[i].own)) = false := l4
                have l4 : acts[i].own = acts'[i].own := by simpa using l4
                refine CallS.pure (same_spec hck.told hck'.told (by omega) (by omega)) rfl (.sb fun _ => decide (acts[i].told = acts'[i].told)) rfl rfl ?_
                conv => cbv
                refine ⟨fun l5 => ?_, fun l5 => ?_⟩
                · replace l5 : (!decide (acts[i].told = acts'[i].told)) = true := l5
                  have l5 : ¬ acts[i].told = acts'[i].told := by simpa using l5
                  refine hK.pure rfl (Mem.le_refl _) ?_
                  rw [decide_eq_false (bad fun e => l5 (by rw [e]))]
                  rfl
                · replace l5 : (!decide (acts[i].told = acts'[i].told)) = false := l5
                  have l5 : acts[i].told = acts'[i].told := by simpa using l5
                  refine .i64 ((i + 1 : Nat) : Int) (by show (i : Int) + 1 = _; omega) (by omega) (by omega) ?_
                  conv => cbv
                  refine ih (i + 1) ⟨by omega, fun j h1 h2 hji => ?_⟩ (by omega) _ ?_
                  · rcases Nat.lt_or_ge j i with hlt | hge
                    · exact hi2 j h1 h2 hlt
                    · have : j = i := by omega
                      subst this
                      exact ActV.ext' l4 l5 (by omega) (by omega)
                  · refine ⟨by cbv <;> simp, by cbv <;> simp, by cbv, Mem.le_refl _⟩
        · replace l1 := of_decide_eq_false l1
          try simp only [nc] at l1
          try simp only [minF_t] at l1
          try simp only [minF_f] at l1
          try dsimp only at l1
          refine hK.pure rfl (Mem.le_refl _) ?_
          rw [decide_eq_true ⟨list_eq (by omega) fun j h1 h2 => hi2 j h1 h2 (by omega), h2⟩]
          rfl

end Go.SX
