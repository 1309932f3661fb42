/- Layer 36: lists of truth values; Honest. -/
import Derived.Test.YtojdihbanakhgaaAhH
import Derived.Test.YtojdihbanakhgaaAgO
namespace Go.SX
open Go.Proofs.Try Go.Proofs

def ElB : ElR Bool := fun _ c x => c = [.bool x]
theorem ElB.up : ElB.Up := fun _ _ _ _ _ h => h
abbrev RB (M : Mem) (a : Option Addr) (n k : Nat) (l : List Bool) : Prop := RdL ElB 1 M a n k l

theorem RdL.bidx {M : Mem} {a : Option Addr} {n k : Nat} {l : List Bool} (h : RB M a n k l) {i : Nat} (hi : i < l.length) :
    ∃ b o, a = some ⟨b, o, none⟩ ∧ M.cell b (o + i * 1) = some (.bool l[i]) := by
  obtain ⟨b, o, c, e, _, hc, hm⟩ := h.at (List.getElem?_eq_getElem hi)
  have hc : c = [.bool l[i]] := hc
  subst hc
  exact ⟨b, o, e, hm.1⟩

theorem all2_b {M : Mem} : ∀ l : List Bool, All2 (fun c x => c.length = 1 ∧ ElB M c x) (l.map fun x => [.bool x]) l
  | [] => trivial
  | _ :: l => ⟨⟨rfl, rfl⟩, all2_b l⟩
theorem flat_b : ∀ l : List Bool, (l.map fun x => [Value.bool x]).flatten = l.map Value.bool
  | [] => rfl
  | x :: l => by simp [flat_b l]
theorem RB.new {M : Mem} {b T N k : Nat} {l : List Bool} (h : M b = some (.row T N (l.map Value.bool))) (hk : l.length ≤ k) : RB M (some ⟨b, 0, none⟩) l.length k l :=
  ⟨rfl, hk, (fun h => by cases h), l.map fun x => [.bool x], all2_b l, fun _ => ⟨b, 0, rfl, by rw [flat_b]; exact CellsAt.row h⟩⟩

theorem splice_one {α : Type} (f : α → Value) : ∀ (l : List α) (i : Nat) (x : α), i < l.length → spliceV (l.map f) i [f x] = (l.set i x).map f
  | [], i, x, h => by simp at h
  | y :: l, 0, x, _ => by simp [spliceV]
  | y :: l, i + 1, x, h => by
    have ih := splice_one f l i x (by simpa using h)
    simp only [spliceV, List.length_singleton] at ih ⊢
    rw [List.set_cons_succ, List.map_cons, List.map_cons, ← ih]
    simp

theorem made_one (v : Value) (n : Nat) : (madeCells #[v] n).toList = List.replicate n v := by
  refine List.ext_getElem (by simp [madeCells]) fun i h1 h2 => ?_
  have e : i % 1 = 0 := Nat.mod_one i
  simp [madeCells, e]

def sameB (l l' : List Bool) : Bool := decide (l = l')

set_option maxRecDepth 100000 in
theorem sameBools_spec {l l' : List Bool} {M : Mem} {a a' : Option Addr} {n k n' k' : Nat} (h : RB M a n k l) (h' : RB M a' n' k' l') (hb : n ≤ 1000000) : Pure1 58 #[SV a n k, SV a' n' k'] M (.bool (sameB l l')) := by
  have hn := h.len
  have hn' := h'.len
  refine ok58.pure 200 [SA a n k, SA a' n' k'] rfl (by kernel_rfl) fun c K hK => ?_
  conv => cbv
  refine ⟨fun h1 => ?_, fun h1 => ?_⟩
  · replace h1 := of_decide_eq_true h1
    try simp only [nc] at h1
    try simp only [minF_t] at h1
    try simp only [minF_f] at h1
    try dsimp only at h1
    refine hK.pure rfl (Mem.le_refl _) ?_
    rw [sameB, decide_eq_false (list_ne' (by omega))]
    rfl
  · replace h1 := of_decide_eq_false h1
    try simp only [nc] at h1
    try simp only [minF_t] at h1
    try simp only [minF_f] at h1
    try dsimp only at h1
    refine OKS.loopH (fun i => i ≤ n ∧ ∀ j (h1 : j < l.length) (h2 : j < l'.length), j < i → l[j] = l'[j]) (fun i => [(5, EA i)]) (fun _ => []) (fun _ => M) (fun i => n - i) 0 ⟨by omega, fun j _ _ h => by omega⟩ ?_ ?_
    · refine ⟨by cbv <;> simp, by cbv <;> simp, by cbv, Mem.le_refl _⟩
    · intro i ⟨hi1, hi2⟩ ih
      refine ok58.go 100 (by kernel_rfl) ?_
      conv => cbv
      refine ⟨fun l1 => ?_, fun l1 => ?_⟩
      · replace l1 := of_decide_eq_true l1
        try simp only [nc] at l1
        try simp only [minF_t] at l1
        try simp only [minF_f] at l1
        try dsimp only at l1
        obtain ⟨b, o, ea, hp⟩ := h.bidx (i := i) (by omega)
        obtain ⟨b', o', ea', hp'⟩ := h'.bidx (i := i) (by omega)
        refine .mk b o i ea rfl (by show i < n; omega) ?_
        conv => cbv
        refine .mk (.sb fun _ => l[i]) rfl hp ?_
        conv => cbv
        refine .mk b' o' i ea' rfl (by show i < n'; omega) ?_
        conv => cbv
        refine .mk (.sb fun _ => l'[i]) rfl hp' ?_
        conv => cbv
        refine ⟨fun l2 => ?_, fun l2 => ?_⟩
        · have : l[i] ≠ l'[i] := fun e => by
            rw [e] at l2
            simp at l2
          refine hK.pure rfl (Mem.le_refl _) ?_
          rw [sameB, decide_eq_false (list_ne (j := i) (by omega) (by omega) this)]
          rfl
        · have l2 : l[i] = l'[i] := by simpa using l2
          refine .i64 ((i + 1 : Nat) : Int) (by show (i : Int) + 1 = _; omega) (by omega) (by omega) ?_
          conv => cbv
          refine ih (i + 1) ⟨by omega, fun j h1 h2 hji => ?_⟩ (by omega) _ ?_
          · rcases Nat.lt_or_ge j i with hlt | hge
            · exact hi2 j h1 h2 hlt
            · have : j = i := by omega
              subst this
              exact l2
          · refine ⟨by cbv <;> simp, by cbv <;> simp, by cbv, Mem.le_refl _⟩
      · replace l1 := of_decide_eq_false l1
        try simp only [nc] at l1
        try simp only [minF_t] at l1
        try simp only [minF_f] at l1
        try dsimp only at l1
        refine hK.pure rfl (Mem.le_refl _) ?_
        rw [sameB, decide_eq_true (list_eq (by omega) fun j h1 h2 => hi2 j h1 h2 (by omega))]
        rfl

def honB (own : List CakeV) (l : List QV) : Bool := decide ((replayC own l).2 = 0) && decide ((replayC own l).1 = (l.length : Nat))
def honL (m : MtV) : List Bool := (List.range m.acts.length).map fun i => honB (cakesL m.acts false) (ofL m.log (i : Nat))
def honR (m : MtV) : List Bool × Int := if meetC m.acts m.log ≠ 0 then ([], meetC m.acts m.log) else (honL m, 0)

def HonPost (m : MtV) (M' : Mem) (v : Value) : Prop := ∃ a k, v = .tuple #[SV a (honR m).1.length k, EV (honR m).2] ∧ RB M' a (honR m).1.length k (honR m).1

set_option maxHeartbeats 2000000 in
set_option maxRecDepth 100000 in
theorem honest_spec {acts : List ActV} {log : List QV} {M : Mem} {aa qa : Option Addr} {an ak qn qk : Nat} (h : RActs M aa an ak acts) (hq : RQ M qa qn qk log) :
    Spec 54 #[MV aa an ak qa qn qk] M fun _ M' v => HonPost ⟨acts, log⟩ M' v := by
  have hn := h.len
  have hqn := hq.len
  refine ok54.spec 300 [MA aa an ak qa qn qk] rfl (by kernel_rfl) fun c K hK => ?_
  conv => cbv
  refine CallS.spec (meetCheck_spec h hq) rfl fun B1 M1 v1 hB1 hlt1 hk1 hn1 ev1 => ⟨EA (meetC acts log), rfl, ev1.symm, ?_⟩
  conv => cbv
  refine ⟨fun h1 => ?_, fun h1 => ?_⟩
  · replace h1 := of_decide_eq_true h1
    try simp only [nc] at h1
    try simp only [minF_t] at h1
    try simp only [minF_f] at h1
    try dsimp only at h1
    refine hK.ground rfl hk1 ?_
    have e : honR ⟨acts, log⟩ = ([], meetC acts log) := by rw [honR, if_pos h1]
    unfold HonPost
    rw [e]
    exact ⟨none, 0, rfl, RdL.nil' ..⟩
  · replace h1 := of_decide_eq_false h1
    try simp only [nc] at h1
    try simp only [minF_t] at h1
    try simp only [minF_f] at h1
    try dsimp only at h1
    have h1 : meetC acts log = 0 := by omega
    obtain ⟨d1, d2, d3, d4, d5⟩ := meetC_ok h1
    have e : honR ⟨acts, log⟩ = (honL ⟨acts, log⟩, 0) := by rw [honR, if_neg (fun k => k h1)]
    unfold HonPost at hK
    rw [e] at hK
    refine OKS.loopH (fun (p : Nat × Mem × Option Addr × Nat) => p.1 ≤ an ∧ OwnL ElC c p.2.1 40 3 p.2.2.1 p.1 p.2.2.2 (cakesL (acts.take p.1) false) ∧ ∀ b, M b ≠ none → p.2.1 b = M b)
      (fun p => [(5, SA p.2.2.1 p.1 p.2.2.2), (21, EA p.1)]) (fun _ => [(7, .none)]) (fun p => p.2.1) (fun p => an - p.1) (0, M1, none, 0) ⟨by simp, OwnL.nil, hk1.keep⟩ ?_ ?_
    · refine ⟨by cbv <;> simp, by cbv <;> simp, by cbv, Mem.le_refl _⟩
    · intro ⟨i, Mi, a', k'⟩ ⟨hi1, hown, hkp⟩ ih
      simp only at hi1 hown hkp
      have hcM : RActs Mi aa an ak acts := h.up ElA.up (le_of_keep hkp)
      refine ok54.go 100 (by kernel_rfl) ?_
      conv => cbv
      refine ⟨fun l1 => ?_, fun l1 => ?_⟩
      · replace l1 := of_decide_eq_true l1
        try simp only [nc] at l1
        try simp only [minF_t] at l1
        try simp only [minF_f] at l1
        try dsimp only at l1
        obtain ⟨b, o, p, ea, hp, hak⟩ := hcM.actor (i := i) (by omega)
        have hsn := cakesL_take acts false (i := i) (by omega)
        refine .mk b o i ea rfl (by show i < an; omega) ?_
        conv => cbv
        refine .mk p.avs rfl rfl hp ?_
        conv => cbv
        refine .mk trivial fun b3 M3 hn3 hB3 hM3 => ?_
        conv => cbv
        have hM3' : M3 = Mi.set b3 (.row 40 3 p.own.cells) := hM3
        have kp3 : ∀ b, Mi b ≠ none → M3 b = Mi b := by rw [hM3']; exact keep_set hn3
        have hown3 := hown.keep ElC.up kp3
        have hone : RC M3 (some ⟨b3, 0, none⟩) 1 1 [acts[i].own] := RdL.one (fun _ _ _ => trivial) (CellsAt.new hM3') rfl ⟨_, rfl, hak.own.up (le_of_keep kp3)⟩ (by omega)
        refine AppS.list (t := 53) (ti := ti53) (ei := ti40) rfl rfl rfl (by decide) rfl ElC.up ElC.one hown3 hone (by simp only [maxLen]; omega) (by show (i + 1) * 56 ≤ _; omega) fun M4 a4 k4 h4 g4 => ?_
        conv => cbv
        refine .i64 ((i + 1 : Nat) : Int) (by show (i : Int) + 1 = _; omega) (by omega) (by omega) ?_
        conv => cbv
        refine ih (i + 1, M4, a4, k4) ⟨by simp only; omega, by rw [hsn]; exact h4, keep_app (keep_trans hkp kp3) hK.lt hK.lent hown3 g4⟩ (by simp only; omega) _ ?_
        refine ⟨by cbv <;> simp, by cbv <;> simp, by cbv, Mem.le_refl _⟩
      · replace l1 := of_decide_eq_false l1
        try simp only [nc] at l1
        try simp only [minF_t] at l1
        try simp only [minF_f] at l1
        try dsimp only at l1
        have : i = acts.length := by omega
        subst this
        rw [List.take_length] at hown
        have hoR : RC Mi a' acts.length k' (cakesL acts false) := hown.rd
        rw [← hn] at hoR
        rw [← hn]
        refine NewS.made (T := 4) (size := 1) (zero := ti4.zero) (m := fun _ => (an : Int)) an rfl ⟨by show (0 : Int) ≤ (an : Int); omega, by show (an : Int) ≤ (an : Int); omega, by show (an : Int) * ((1 : Nat) : Int) ≤ 281474976710656; omega, by show (an : Int) ≤ 9223372036854775807; omega⟩ fun bb M5 n5 B5 ⟨N5, f5⟩ => ?_
        have f5' : M5 bb = some (.row 4 N5 ((List.replicate an false).map Value.bool)) := by
          rw [f5, set_self]
          have : (madeCells (AV.denL (fun _ => 0) ti4.zero).toArray (an * 1)).toList = (List.replicate an false).map Value.bool := by
            rw [Nat.mul_one, List.map_replicate]
            exact made_one _ _
          rw [this]
        have k5 : ∀ b, Mi b ≠ none → M5 b = Mi b := by rw [f5]; exact keep_set n5
        conv => cbv
        refine OKS.loopH (fun (p : Nat × Mem × List Bool) => p.1 ≤ an ∧ p.2.2.length = an ∧ p.2.1 bb = some (.row 4 N5 (p.2.2.map Value.bool)) ∧ Mi.le p.2.1 ∧ (∀ b, M b ≠ none → p.2.1 b = M b) ∧ ∀ j (hj : j < p.2.2.length), j < p.1 → p.2.2[j] = honB (cakesL acts false) (ofL log (j : Nat)))
          (fun p => [(38, EA p.1)]) (fun _ => []) (fun p => p.2.1) (fun p => an - p.1) (0, M5, List.replicate an false) ⟨by simp, by simp, f5', le_of_keep k5, keep_trans hkp k5, fun j _ h => absurd h (by simp)⟩ ?_ ?_
        · refine ⟨by cbv <;> simp, by cbv <;> simp, by cbv, Mem.le_refl _⟩
        · intro ⟨i, Mj, bl⟩ ⟨hi1, hbl, hrow, hle, hkj, hall⟩ ih
          simp only at hi1 hbl hrow hle hkj hall
          refine ok54.go 100 (by kernel_rfl) ?_
          conv => cbv
          refine ⟨fun l1 => ?_, fun l1 => ?_⟩
          · replace l1 := of_decide_eq_true l1
            try simp only [nc] at l1
            try simp only [minF_t] at l1
            try simp only [minF_f] at l1
            try dsimp only at l1
            refine CallS.spec (of_spec (hq.up ElQ.up (le_of_keep hkj)) (by omega) (i : Nat)) rfl fun B6 M6 v6 hB6 hlt6 hk6 hn6 ⟨a6, k6, ev6, h6⟩ => ⟨SA a6 (ofL log (i : Nat)).length k6, rfl, ev6.symm, ?_⟩
            conv => cbv
            have hrow6 : M6 bb = some (.row 4 N5 (bl.map Value.bool)) := by rw [hk6.keep bb (by rw [hrow]; simp)]; exact hrow
            have hkb : ∀ f, ∀ b, M b ≠ none → (M6.set bb f) b = M b := fun f b hb => by
              have e1 := hkp b hb
              have : b ≠ bb := fun e => by
                rw [e] at e1 hb
                rw [n5] at e1
                exact hb e1.symm
              simp only [Mem.set, if_neg this]
              rw [hk6.keep b (by rw [hkj b hb]; exact hb), hkj b hb]
            obtain ⟨rr, hrr⟩ : ∃ rr, replayC (cakesL acts false) (ofL log (i : Nat)) = rr := ⟨_, rfl⟩
            have hrep := replay_spec (hoR.up ElC.up (Mem.le_trans hle hk6.le)) h6
            rw [hrr] at hrep
            refine CallS.pure hrep rfl (.tup [EA rr.1, EA rr.2]) rfl rfl ?_
            conv => cbv
            have hset : ∀ x : Bool, x = honB (cakesL acts false) (ofL log (i : Nat)) → ∀ j (hj : j < (bl.set i x).length), j < i + 1 → (bl.set i x)[j] = honB (cakesL acts false) (ofL log (j : Nat)) := fun x hx j hj hji => by
              rw [List.getElem_set]
              split
              · rename_i e; subst e; exact hx
              · exact hall j (by simpa using hj) (by omega)
            refine ⟨fun e1 => ?_, fun e1 => ?_⟩
            · replace e1 := of_decide_eq_true e1
              try simp only [nc] at e1
              try simp only [minF_t] at e1
              try simp only [minF_f] at e1
              try dsimp only at e1
              refine .mk bb 0 i rfl rfl (by show i < an; omega) ?_
              conv => cbv
              refine .rowM hrow6 (.inl B5) (by show 0 + i * 1 + 1 ≤ _; simp; omega) rfl (cs' := (bl.set i (decide (rr.1 = ((ofL log (i : Nat)).length : Nat)))).map Value.bool) (by show spliceV _ (0 + i * 1) [Value.bool (decide (rr.1 = ((ofL log (i : Nat)).length : Nat)))] = _; rw [Nat.zero_add, Nat.mul_one]; exact splice_one Value.bool bl i _ (by omega)) fun M7 hM7 => ?_
              conv => cbv
              refine .i64 ((i + 1 : Nat) : Int) (by show (i : Int) + 1 = _; omega) (by omega) (by omega) ?_
              conv => cbv
              obtain ⟨bl', hbl'⟩ : ∃ bl', bl.set i (decide (rr.1 = ((ofL log (i : Nat)).length : Nat))) = bl' := ⟨_, rfl⟩
              have hs := hset (decide (rr.1 = ((ofL log (i : Nat)).length : Nat))) (by rw [honB, hrr, decide_eq_true e1, Bool.true_and])
              rw [hbl'] at hM7
              refine ih (i + 1, M7, bl') ⟨by simp only; omega, by rw [← hbl', List.length_set]; exact hbl, by rw [hM7]; exact set_self .., by rw [hM7]; exact le_set_off (Mem.le_trans hle hk6.le) n5, by rw [hM7]; exact hkb _, by subst hbl'; exact hs⟩ (by simp only; omega) _ ?_
              refine ⟨by cbv <;> simp, by cbv <;> simp, by cbv, Mem.le_refl _⟩
            · replace e1 := of_decide_eq_false e1
              try simp only [nc] at e1
              try simp only [minF_t] at e1
              try simp only [minF_f] at e1
              try dsimp only at e1
              refine .mk bb 0 i rfl rfl (by show i < an; omega) ?_
              conv => cbv
              refine .rowM hrow6 (.inl B5) (by show 0 + i * 1 + 1 ≤ _; simp; omega) rfl (cs' := (bl.set i false).map Value.bool) (by show spliceV _ (0 + i * 1) [Value.bool false] = _; rw [Nat.zero_add, Nat.mul_one]; exact splice_one Value.bool bl i _ (by omega)) fun M7 hM7 => ?_
              conv => cbv
              refine .i64 ((i + 1 : Nat) : Int) (by show (i : Int) + 1 = _; omega) (by omega) (by omega) ?_
              conv => cbv
              obtain ⟨bl', hbl'⟩ : ∃ bl', bl.set i false = bl' := ⟨_, rfl⟩
              have hs := hset false (by rw [honB, hrr, decide_eq_false e1, Bool.false_and])
              rw [hbl'] at hM7
              refine ih (i + 1, M7, bl') ⟨by simp only; omega, by rw [← hbl', List.length_set]; exact hbl, by rw [hM7]; exact set_self .., by rw [hM7]; exact le_set_off (Mem.le_trans hle hk6.le) n5, by rw [hM7]; exact hkb _, by subst hbl'; exact hs⟩ (by simp only; omega) _ ?_
              refine ⟨by cbv <;> simp, by cbv <;> simp, by cbv, Mem.le_refl _⟩
          · replace l1 := of_decide_eq_false l1
            try simp only [nc] at l1
            try simp only [minF_t] at l1
            try simp only [minF_f] at l1
            try dsimp only at l1
            have e2 : honL ⟨acts, log⟩ = bl := by
              refine List.ext_getElem (by simp [honL]; omega) fun j h1 h2 => ?_
              rw [hall j h2 (by omega)]
              simp [honL]
            rw [e2] at hK
            refine hK.ground rfl (Keeps.of_keep hkj) ⟨some ⟨bb, 0, none⟩, an, ?_, ?_⟩
            · rw [hbl]; rfl
            · rw [hbl, ← hbl]
              exact RB.new hrow (Nat.le_refl _)

end Go.SX
