/- Layer 36: actors and meetings, plainly and in memory; the queries of one actor. -/
import Derived.Test.YtojdihbanakhgaaAgU
import Derived.Test.YtojdihbanakhgaaAgP
import Derived.Test.YtojdihbanakhgaaSxFn1
import Derived.Test.YtojdihbanakhgaaSxFn2
import Derived.Test.YtojdihbanakhgaaSxFn3
namespace Go.SX
open Go.Proofs.Try Go.Proofs

/-! ### Actors -/

structure ActV where
  own : CakeV
  told : CakeV
  after : Int
  asked : Int
  deriving DecidableEq

/-- An actor's parts as they are handed over. -/
structure AP where
  own : CP
  told : CP
  after : Int
  asked : Int

abbrev AP.cells (p : AP) : List Value := [EV p.own.len, SV p.own.ca p.own.cn p.own.ck, SV p.own.da p.own.dn p.own.dk, EV p.told.len, SV p.told.ca p.told.cn p.told.ck, SV p.told.da p.told.dn p.told.dk, EV p.after, EV p.asked]
abbrev AP.avs (p : AP) : List AV := [EA p.own.len, SA p.own.ca p.own.cn p.own.ck, SA p.own.da p.own.dn p.own.dk, EA p.told.len, SA p.told.ca p.told.cn p.told.ck, SA p.told.da p.told.dn p.told.dk, EA p.after, EA p.asked]

structure Ak (M : Mem) (p : AP) (x : ActV) : Prop where
  own : Ck M p.own x.own
  told : Ck M p.told x.told
  after : p.after = x.after
  asked : p.asked = x.asked
  ia : I64 x.after
  ik : I64 x.asked

theorem Ak.up {M M' : Mem} (hl : M.le M') {p : AP} {x : ActV} (h : Ak M p x) : Ak M' p x := ⟨h.own.up hl, h.told.up hl, h.after, h.asked, h.ia, h.ik⟩

def ElA : ElR ActV := fun M cs x => ∃ p : AP, cs = p.cells ∧ Ak M p x
theorem ElA.up : ElA.Up := fun _ _ h _ _ ⟨p, e, hc⟩ => ⟨p, e, hc.up h⟩
theorem AP.one (p : AP) : ∀ u ∈ p.cells, u.oneCell' = true := fun u hu => by
  simp only [AP.cells, List.mem_cons, List.not_mem_nil, or_false] at hu
  rcases hu with rfl | rfl | rfl | rfl | rfl | rfl | rfl | rfl <;> rfl
theorem ElA.one : ∀ (M : Mem) cs x, ElA M cs x → ∀ u ∈ cs, u.oneCell' = true := by
  rintro M cs x ⟨p, rfl, _⟩
  exact p.one

abbrev RActs (M : Mem) (a : Option Addr) (n k : Nat) (l : List ActV) : Prop := RdL ElA 8 M a n k l

theorem RdL.actor {M : Mem} {a : Option Addr} {n k : Nat} {l : List ActV} (h : RActs M a n k l) {i : Nat} (hi : i < l.length) :
    ∃ b o p, a = some ⟨b, o, none⟩ ∧ CellsAt M b (o + i * 8) p.cells ∧ Ak M p l[i] := by
  obtain ⟨b, o, c, e, _, ⟨p, rfl, hp⟩, hm⟩ := h.at (List.getElem?_eq_getElem hi)
  exact ⟨b, o, p, e, hm, hp⟩

abbrev MA (aa : Option Addr) (an ak : Nat) (qa : Option Addr) (qn qk : Nat) : AV := .agg [SA aa an ak, SA qa qn qk]
abbrev MV (aa : Option Addr) (an ak : Nat) (qa : Option Addr) (qn qk : Nat) : Value := .agg #[SV aa an ak, SV qa qn qk]

/-! ### The queries of one actor -/

def ofL (l : List QV) (ag : Int) : List QV := l.filter fun q => decide (q.ag = ag)

theorem ofL_len (l : List QV) (ag : Int) : (ofL l ag).length = cntL l ag := rfl
theorem ofL_snoc (l : List QV) (q : QV) (ag : Int) : ofL (l ++ [q]) ag = if q.ag = ag then ofL l ag ++ [q] else ofL l ag := by
  unfold ofL
  rw [List.filter_append]
  by_cases h : q.ag = ag <;> simp [h]
theorem ofL_le (l : List QV) (ag : Int) : (ofL l ag).length ≤ l.length := List.length_filter_le _ _

def OfPost (l : List QV) (ag : Int) (M' : Mem) (v : Value) : Prop := ∃ a' k', v = SV a' (ofL l ag).length k' ∧ RQ M' a' (ofL l ag).length k' (ofL l ag)

set_option maxRecDepth 100000 in
theorem of_spec {l : List QV} {a : Option Addr} {n k : Nat} {M : Mem} (h : RQ M a n k l) (hs : n ≤ 1000000) (ag : Int) :
    Spec 19 #[SV a n k, EV ag] M fun _ M' v => OfPost l ag M' v := by
  have hn := h.len
  refine ok19.spec 200 [SA a n k, EA ag] rfl (by kernel_rfl) fun c K hK => ?_
  conv => cbv
  refine OKS.loopH (fun (p : Nat × Mem × Option Addr × Nat × List QV) => p.1 ≤ n ∧ p.2.2.2.2 = ofL (l.take p.1) ag ∧ OwnL ElQ c p.2.1 64 8 p.2.2.1 p.2.2.2.2.length p.2.2.2.1 p.2.2.2.2 ∧ ∀ b, M b ≠ none → p.2.1 b = M b)
    (fun p => [(5, SA p.2.2.1 p.2.2.2.2.length p.2.2.2.1), (10, EA p.1)]) (fun _ => [(7, .none)]) (fun p => p.2.1) (fun p => n - p.1) (0, M, none, 0, []) ⟨by simp, by simp [ofL], OwnL.nil, fun _ _ => rfl⟩ ?_ ?_
  · refine ⟨by cbv <;> simp, by cbv <;> simp, by cbv, Mem.le_refl _⟩
  · intro ⟨i, Mi, a', k', acc⟩ ⟨hi1, hacc, hown, hkp⟩ ih
    simp only at hi1 hacc hown hkp
    have hqM := h.up ElQ.up (le_of_keep hkp)
    refine ok19.go 100 (by kernel_rfl) ?_
    conv => cbv
    refine ⟨fun l1 => ?_, fun l1 => ?_⟩
    · replace l1 := of_decide_eq_true l1
      try simp only [nc] at l1
      try simp only [minF_t] at l1
      try simp only [minF_f] at l1
      try dsimp only at l1
      obtain ⟨b, o, ea, hp, hw⟩ := hqM.query (i := i) (by omega)
      have hsn := ofL_snoc (l.take i) l[i] ag
      rw [← take_snoc (show i < l.length by omega), ← hacc] at hsn
      have hle := ofL_le (l.take i) ag
      rw [← hacc, List.length_take] at hle
      refine .mk b o i ea rfl (by show i < n; omega) ?_
      conv => cbv
      refine .mk l[i].avs rfl rfl hp ?_
      conv => cbv
      refine ⟨fun l2 => ?_, fun l2 => ?_⟩
      · replace l2 := of_decide_eq_true l2
        try simp only [nc] at l2
        try simp only [minF_t] at l2
        try simp only [minF_f] at l2
        try dsimp only at l2
        rw [if_pos l2] at hsn
        refine .mk trivial fun b3 M3 hn3 hB3 hM3 => ?_
        conv => cbv
        have hM3' : M3 = Mi.set b3 (.row 64 8 l[i].cells) := hM3
        have kp3 : ∀ b, Mi b ≠ none → M3 b = Mi b := by rw [hM3']; exact keep_set hn3
        have hown3 := hown.keep ElQ.up kp3
        have hone : RQ M3 (some ⟨b3, 0, none⟩) 1 1 [l[i]] := RdL.one (fun _ _ _ => trivial) (CellsAt.new hM3') rfl ⟨rfl, hw⟩ (by omega)
        refine AppS.list (t := 23) (ti := ti23) (ei := ti64) rfl rfl rfl (by decide) rfl ElQ.up ElQ.one hown3 hone (by simp only [maxLen]; omega) (by show (acc.length + 1) * 64 ≤ _; omega) fun M4 a4 k4 h4 g4 => ?_
        conv => cbv
        refine .i64 ((i + 1 : Nat) : Int) (by show (i : Int) + 1 = _; omega) (by omega) (by omega) ?_
        conv => cbv
        have h4' : OwnL ElQ c M4 64 8 a4 (acc ++ [l[i]]).length k4 (acc ++ [l[i]]) := by rw [List.length_append]; exact h4
        refine ih (i + 1, M4, a4, k4, acc ++ [l[i]]) ⟨by simp only; omega, hsn.symm, h4', keep_app (keep_trans hkp kp3) hK.lt hK.lent hown3 g4⟩ (by simp only; omega) _ ?_
        refine ⟨by cbv <;> simp, by cbv <;> simp, by cbv, Mem.le_refl _⟩
      · replace l2 := of_decide_eq_false l2
        try simp only [nc] at l2
        try simp only [minF_t] at l2
        try simp only [minF_f] at l2
        try dsimp only at l2
        rw [if_neg l2] at hsn
        refine .i64 ((i + 1 : Nat) : Int) (by show (i : Int) + 1 = _; omega) (by omega) (by omega) ?_
        conv => cbv
        refine ih (i + 1, Mi, a', k', acc) ⟨by simp only; omega, hsn.symm, hown, hkp⟩ (by simp only; omega) _ ?_
        refine ⟨by cbv <;> simp, by cbv <;> simp, by cbv, Mem.le_refl _⟩
    · replace l1 := of_decide_eq_false l1
      try simp only [nc] at l1
      try simp only [minF_t] at l1
      try simp only [minF_f] at l1
      try dsimp only at l1
      have : i = l.length := by omega
      subst this
      rw [List.take_length] at hacc
      subst hacc
      exact hK.ground rfl (Keeps.of_keep hkp) ⟨a', k', rfl, hown.rd⟩

set_option maxRecDepth 100000 in
theorem refOf_spec {l : List QV} {a : Option Addr} {n k : Nat} {M : Mem} (h : RQ M a n k l) (hs : n ≤ 1000000) (ag : Int) :
    Spec 20 #[SV a n k, EV ag] M fun _ M' v => OfPost l ag M' v := by
  have hn := h.len
  refine ok20.spec 200 [SA a n k, EA ag] rfl (by kernel_rfl) fun c K hK => ?_
  conv => cbv
  refine OKS.loopH (fun (p : Nat × Mem × Option Addr × Nat × List QV) => p.1 ≤ n ∧ p.2.2.2.2 = ofL (l.take p.1) ag ∧ OwnL ElQ c p.2.1 64 8 p.2.2.1 p.2.2.2.2.length p.2.2.2.1 p.2.2.2.2 ∧ ∀ b, M b ≠ none → p.2.1 b = M b)
    (fun p => [(5, SA p.2.2.1 p.2.2.2.2.length p.2.2.2.1), (6, EA p.1)]) (fun _ => []) (fun p => p.2.1) (fun p => n - p.1) (0, M, none, 0, []) ⟨by simp, by simp [ofL], OwnL.nil, fun _ _ => rfl⟩ ?_ ?_
  · refine ⟨by cbv <;> simp, by cbv <;> simp, by cbv, Mem.le_refl _⟩
  · intro ⟨i, Mi, a', k', acc⟩ ⟨hi1, hacc, hown, hkp⟩ ih
    simp only at hi1 hacc hown hkp
    have hqM := h.up ElQ.up (le_of_keep hkp)
    refine ok20.go 100 (by kernel_rfl) ?_
    conv => cbv
    refine ⟨fun l1 => ?_, fun l1 => ?_⟩
    · replace l1 := of_decide_eq_true l1
      try simp only [nc] at l1
      try simp only [minF_t] at l1
      try simp only [minF_f] at l1
      try dsimp only at l1
      obtain ⟨b, o, ea, hp, hw⟩ := hqM.query (i := i) (by omega)
      have hsn := ofL_snoc (l.take i) l[i] ag
      rw [← take_snoc (show i < l.length by omega), ← hacc] at hsn
      have hle := ofL_le (l.take i) ag
      rw [← hacc, List.length_take] at hle
      refine .mk b o i ea rfl (by show i < n; omega) ?_
      conv => cbv
      refine .mk (EA l[i].ag) rfl hp.1 ?_
      conv => cbv
      refine ⟨fun l2 => ?_, fun l2 => ?_⟩
      · replace l2 := of_decide_eq_true l2
        try simp only [nc] at l2
        try simp only [minF_t] at l2
        try simp only [minF_f] at l2
        try dsimp only at l2
        rw [if_pos l2] at hsn
        refine .mk b o i ea rfl (by show i < n; omega) ?_
        conv => cbv
        refine .mk l[i].avs rfl rfl hp ?_
        conv => cbv
        refine .mk trivial fun b3 M3 hn3 hB3 hM3 => ?_
        conv => cbv
        have hM3' : M3 = Mi.set b3 (.row 64 8 l[i].cells) := hM3
        have kp3 : ∀ b, Mi b ≠ none → M3 b = Mi b := by rw [hM3']; exact keep_set hn3
        have hown3 := hown.keep ElQ.up kp3
        have hone : RQ M3 (some ⟨b3, 0, none⟩) 1 1 [l[i]] := RdL.one (fun _ _ _ => trivial) (CellsAt.new hM3') rfl ⟨rfl, hw⟩ (by omega)
        refine AppS.list (t := 23) (ti := ti23) (ei := ti64) rfl rfl rfl (by decide) rfl ElQ.up ElQ.one hown3 hone (by simp only [maxLen]; omega) (by show (acc.length + 1) * 64 ≤ _; omega) fun M4 a4 k4 h4 g4 => ?_
        conv => cbv
        refine .i64 ((i + 1 : Nat) : Int) (by show (i : Int) + 1 = _; omega) (by omega) (by omega) ?_
        conv => cbv
        have h4' : OwnL ElQ c M4 64 8 a4 (acc ++ [l[i]]).length k4 (acc ++ [l[i]]) := by rw [List.length_append]; exact h4
        refine ih (i + 1, M4, a4, k4, acc ++ [l[i]]) ⟨by simp only; omega, hsn.symm, h4', keep_app (keep_trans hkp kp3) hK.lt hK.lent hown3 g4⟩ (by simp only; omega) _ ?_
        refine ⟨by cbv <;> simp, by cbv <;> simp, by cbv, Mem.le_refl _⟩
      · replace l2 := of_decide_eq_false l2
        try simp only [nc] at l2
        try simp only [minF_t] at l2
        try simp only [minF_f] at l2
        try dsimp only at l2
        rw [if_neg l2] at hsn
        refine .i64 ((i + 1 : Nat) : Int) (by show (i : Int) + 1 = _; omega) (by omega) (by omega) ?_
        conv => cbv
        refine ih (i + 1, Mi, a', k', acc) ⟨by simp only; omega, hsn.symm, hown, hkp⟩ (by simp only; omega) _ ?_
        refine ⟨by cbv <;> simp, by cbv <;> simp, by cbv, Mem.le_refl _⟩
    · replace l1 := of_decide_eq_false l1
      try simp only [nc] at l1
      try simp only [minF_t] at l1
      try simp only [minF_f] at l1
      try dsimp only at l1
      have : i = l.length := by omega
      subst this
      rw [List.take_length] at hacc
      subst hacc
      exact hK.ground rfl (Keeps.of_keep hkp) ⟨a', k', rfl, hown.rd⟩

end Go.SX

/- Layer 36: both checks of a meeting. -/
namespace Go.SX
open Go.Proofs.Try Go.Proofs

def firstA : List ActV → Int
  | [] => 0
  | x :: l => if checkC x.own ≠ 0 then checkC x.own else if checkC x.told ≠ 0 then checkC x.told else firstA l

def actOk (n : Int) (log : List QV) (i : Nat) (x : ActV) : Bool :=
  decide (x.own.len = n) && decide (x.told.len = n) && decide (-1 ≤ x.after) && decide (x.after ≤ 2000) && decide (x.asked = (cntL log (i : Nat) : Nat))

def actsOk (n : Int) (log : List QV) : Nat → List ActV → Bool
  | _, [] => true
  | i, x :: l => actOk n log i x && actsOk n log (i + 1) l

theorem actsOk_iff {n : Int} {log : List QV} : ∀ {l : List ActV} {k : Nat}, actsOk n log k l = true ↔ ∀ i (h : i < l.length), actOk n log (k + i) l[i] = true
  | [], k => by simp [actsOk]
  | x :: l, k => by
    simp only [actsOk, Bool.and_eq_true, actsOk_iff (l := l)]
    constructor
    · rintro ⟨h1, h2⟩ i h
      cases i with
      | zero => exact h1
      | succ i =>
        have := h2 i (by simpa using h)
        rw [show k + (i + 1) = k + 1 + i by omega]
        exact this
    · intro h
      refine ⟨h 0 (by simp), fun i hi => ?_⟩
      have := h (i + 1) (by simpa using hi)
      rw [show k + (i + 1) = k + 1 + i by omega] at this
      exact this

def meetC (acts : List ActV) (log : List QV) : Int :=
  if 6 < acts.length ∨ 2000 < log.length then 4
  else match acts with
    | [] => 8
    | x :: _ => if firstA acts ≠ 0 then firstA acts else if actsOk x.own.len log 0 acts then 0 else 8

theorem firstA_cons {l : List ActV} {i : Nat} (h : i < l.length) : firstA (l.drop i) = if checkC l[i].own ≠ 0 then checkC l[i].own else if checkC l[i].told ≠ 0 then checkC l[i].told else firstA (l.drop (i + 1)) := by
  rw [drop_cons' h]; rfl

theorem meetC_many {acts : List ActV} {log : List QV} (h : 6 < acts.length ∨ 2000 < log.length) : meetC acts log = 4 := by unfold meetC; rw [if_pos h]
theorem meetC_nil {log : List QV} (h : ¬ 2000 < log.length) : meetC [] log = 8 := by unfold meetC; rw [if_neg (by simp; omega)]
theorem meetC_ne {acts : List ActV} {log : List QV} (h : ¬ (6 < acts.length ∨ 2000 < log.length)) (h2 : 0 < acts.length) :
    meetC acts log = if firstA acts ≠ 0 then firstA acts else if actsOk acts[0].own.len log 0 acts then 0 else 8 := by
  unfold meetC
  rw [if_neg h]
  cases acts with
  | nil => simp at h2
  | cons c l => rfl

/-- What a meeting that is right is. -/
theorem meetC_ok {acts : List ActV} {log : List QV} (h : meetC acts log = 0) : 1 ≤ acts.length ∧ acts.length ≤ 6 ∧ log.length ≤ 2000 ∧ (∀ x ∈ acts, checkC x.own = 0 ∧ checkC x.told = 0) ∧
    ∀ i (hi : i < acts.length), acts[i].own.len = (acts.headD ⟨⟨0, [], []⟩, ⟨0, [], []⟩, 0, 0⟩).own.len ∧ acts[i].told.len = (acts.headD ⟨⟨0, [], []⟩, ⟨0, [], []⟩, 0, 0⟩).own.len ∧ -1 ≤ acts[i].after ∧ acts[i].after ≤ 2000 ∧ acts[i].asked = (cntL log (i : Nat) : Nat) := by
  have key : ∀ l : List ActV, firstA l = 0 → ∀ x ∈ l, checkC x.own = 0 ∧ checkC x.told = 0 := by
    intro l
    induction l with
    | nil => intro _ c hc; cases hc
    | cons x l ih =>
      intro h c hc
      simp only [firstA] at h
      split at h
      · rename_i h1; exact absurd h h1
      · rename_i h1
        split at h
        · rename_i h2; exact absurd h h2
        · rename_i h2
          rcases List.mem_cons.1 hc with rfl | hc
          · exact ⟨Decidable.byContradiction h1, Decidable.byContradiction h2⟩
          · exact ih h c hc
  by_cases h1 : 6 < acts.length ∨ 2000 < log.length
  · rw [meetC_many h1] at h; omega
  · by_cases h0 : 0 < acts.length
    · rw [meetC_ne h1 h0] at h
      split at h
      · rename_i h2; exact absurd h h2
      · rename_i h2
        split at h
        · rename_i h3
          refine ⟨h0, by omega, by omega, key _ (Decidable.byContradiction h2), fun i hi => ?_⟩
          have h4 := actsOk_iff.1 h3 i hi
          simp only [actOk, Bool.and_eq_true, decide_eq_true_eq, Nat.zero_add] at h4
          obtain ⟨⟨⟨⟨k1, k2⟩, k3⟩, k4⟩, k5⟩ := h4
          have e : (acts.headD ⟨⟨0, [], []⟩, ⟨0, [], []⟩, 0, 0⟩) = acts[0] := by cases acts with
            | nil => simp at h0
            | cons x l => rfl
          rw [e]
          exact ⟨k1, k2, k3, k4, k5⟩
        · omega
    · have : acts = [] := List.eq_nil_of_length_eq_zero (by omega)
      subst this
      rw [meetC_nil (by omega)] at h; omega

set_option maxHeartbeats 1000000 in
set_option maxRecDepth 100000 in
theorem meetCheck_spec {acts : List ActV} {log : List QV} {M : Mem} {aa qa : Option Addr} {an ak qn qk : Nat} (h : RActs M aa an ak acts) (hq : RQ M qa qn qk log) : Spec 56 #[MV aa an ak qa qn qk] M fun _ _ v => v = EV (meetC acts log) := by
  have hn := h.len
  have hqn := hq.len
  refine ok56.spec 300 [MA aa an ak qa qn qk] rfl (by kernel_rfl) fun c K hK => ?_
  conv => cbv
  refine ⟨fun h1 => ?_, fun h1 => ?_⟩
  · replace h1 := of_decide_eq_true h1
    try simp only [nc] at h1
    try simp only [minF_t] at h1
    try simp only [minF_f] at h1
    try dsimp only at h1
    refine hK.ground rfl (Keeps.refl _ _) ?_
    rw [meetC_many (.inl (by omega))]
    rfl
  · replace h1 := of_decide_eq_false h1
    try simp only [nc] at h1
    try simp only [minF_t] at h1
    try simp only [minF_f] at h1
    try dsimp only at h1
    refine ⟨fun h2 => ?_, fun h2 => ?_⟩
    · replace h2 := of_decide_eq_true h2
      try simp only [nc] at h2
      try simp only [minF_t] at h2
      try simp only [minF_f] at h2
      try dsimp only at h2
      refine hK.ground rfl (Keeps.refl _ _) ?_
      rw [meetC_many (.inr (by omega))]
      rfl
    · replace h2 := of_decide_eq_false h2
      try simp only [nc] at h2
      try simp only [minF_t] at h2
      try simp only [minF_f] at h2
      try dsimp only at h2
      refine ⟨fun h3 => ?_, fun h3 => ?_⟩
      · replace h3 := of_decide_eq_true h3
        try simp only [nc] at h3
        try simp only [minF_t] at h3
        try simp only [minF_f] at h3
        try dsimp only at h3
        refine hK.ground rfl (Keeps.refl _ _) ?_
        have : acts = [] := List.eq_nil_of_length_eq_zero (by omega)
        subst this
        rw [meetC_nil (by omega)]
        rfl
      · replace h3 := of_decide_eq_false h3
        try simp only [nc] at h3
        try simp only [minF_t] at h3
        try simp only [minF_f] at h3
        try dsimp only at h3
        rw [meetC_ne (by omega) (by omega)] at hK
        refine OKS.loopH (fun i => i ≤ an ∧ firstA (acts.drop i) = firstA acts) (fun i => [(28, EA i)]) (fun _ => [(4, .none), (6, .none)]) (fun _ => M) (fun i => an - i) 0 ⟨by omega, by simp⟩ ?_ ?_
        · refine ⟨by cbv <;> simp, by cbv <;> simp, by cbv, Mem.le_refl _⟩
        · intro i ⟨hi1, hi2⟩ ih
          refine ok56.go 100 (by kernel_rfl) ?_
          conv => cbv
          refine ⟨fun l1 => ?_, fun l1 => ?_⟩
          · replace l1 := of_decide_eq_true l1
            try simp only [nc] at l1
            try simp only [minF_t] at l1
            try simp only [minF_f] at l1
            try dsimp only at l1
            obtain ⟨b, o, p, ea, hp, hak⟩ := h.actor (i := i) (by omega)
            refine .mk b o i ea rfl (by show i < an; omega) ?_
            conv => cbv
            refine .mk p.avs rfl rfl hp ?_
            conv => cbv
            rw [firstA_cons (by omega)] at hi2
            refine OKS.loopH (fun (k : Nat) => k ≤ 2 ∧ (1 ≤ k → checkC acts[i].own = 0) ∧ (2 ≤ k → checkC acts[i].told = 0)) (fun k => [(37, EA k)]) (fun _ => [(6, .none)]) (fun _ => M) (fun k => 2 - k) 0 ⟨by omega, by omega, by omega⟩ ?_ ?_
            · refine ⟨by cbv <;> simp, by cbv <;> simp, by cbv, Mem.le_refl _⟩
            · intro k ⟨hk1, hk2, hk3⟩ ihk
              refine ok56.go 100 (by kernel_rfl) ?_
              conv => cbv
              refine ⟨fun m1 => ?_, fun m1 => ?_⟩
              · replace m1 := of_decide_eq_true m1
                try simp only [nc] at m1
                try simp only [minF_t] at m1
                try simp only [minF_f] at m1
                try dsimp only at m1
                have hk : k = 0 ∨ k = 1 := by omega
                rcases hk with rfl | rfl
                · refine .mk 0 rfl (by decide) ?_
                  conv => cbv
                  refine CallS.pure (cakeCheck_spec hak.own) rfl (EA (checkC acts[i].own)) rfl rfl ?_
                  conv => cbv
                  refine ⟨fun m2 => ?_, fun m2 => ?_⟩
                  · replace m2 := of_decide_eq_true m2
                    try simp only [nc] at m2
                    try simp only [minF_t] at m2
                    try simp only [minF_f] at m2
                    try dsimp only at m2
                    refine hK.ground rfl (Keeps.refl _ _) ?_
                    rw [← hi2, if_pos m2, if_pos m2]
                    rfl
                  · replace m2 := of_decide_eq_false m2
                    try simp only [nc] at m2
                    try simp only [minF_t] at m2
                    try simp only [minF_f] at m2
                    try dsimp only at m2
                    refine .i64 ((0 + 1 : Nat) : Int) rfl (by omega) (by omega) ?_
                    conv => cbv
                    refine ihk (0 + 1) ⟨by omega, fun _ => by omega, by omega⟩ (by omega) _ ?_
                    refine ⟨by cbv <;> simp, by cbv <;> simp, by cbv, Mem.le_refl _⟩
                · have m0 := hk2 (by omega)
                  refine .mk 1 rfl (by decide) ?_
                  conv => cbv
                  refine CallS.pure (cakeCheck_spec hak.told) rfl (EA (checkC acts[i].told)) rfl rfl ?_
                  conv => cbv
                  refine ⟨fun m2 => ?_, fun m2 => ?_⟩
                  · replace m2 := of_decide_eq_true m2
                    try simp only [nc] at m2
                    try simp only [minF_t] at m2
                    try simp only [minF_f] at m2
                    try dsimp only at m2
                    refine hK.ground rfl (Keeps.refl _ _) ?_
                    rw [← hi2, if_neg (fun k : checkC acts[i].own ≠ 0 => k m0), if_pos m2, if_pos m2]
                    rfl
                  · replace m2 := of_decide_eq_false m2
                    try simp only [nc] at m2
                    try simp only [minF_t] at m2
                    try simp only [minF_f] at m2
                    try dsimp only at m2
                    refine .i64 ((1 + 1 : Nat) : Int) rfl (by omega) (by omega) ?_
                    conv => cbv
                    refine ihk (1 + 1) ⟨by omega, fun _ => m0, fun _ => by omega⟩ (by omega) _ ?_
                    refine ⟨by cbv <;> simp, by cbv <;> simp, by cbv, Mem.le_refl _⟩
              · replace m1 := of_decide_eq_false m1
                try simp only [nc] at m1
                try simp only [minF_t] at m1
                try simp only [minF_f] at m1
                try dsimp only at m1
                have m0 := hk2 (by omega)
                have m2 := hk3 (by omega)
                refine .i64 ((i + 1 : Nat) : Int) (by show (i : Int) + 1 = _; omega) (by omega) (by omega) ?_
                conv => cbv
                refine ih (i + 1) ⟨by omega, by rw [← hi2, if_neg (fun k : checkC acts[i].own ≠ 0 => k m0), if_neg (fun k : checkC acts[i].told ≠ 0 => k m2)]⟩ (by omega) _ ?_
                refine ⟨by cbv <;> simp, by cbv <;> simp, by cbv, Mem.le_refl _⟩
          · replace l1 := of_decide_eq_false l1
            try simp only [nc] at l1
            try simp only [minF_t] at l1
            try simp only [minF_f] at l1
            try dsimp only at l1
            have e0 : firstA acts = 0 := by
              have e1 : acts.drop i = [] := List.drop_eq_nil_of_le (by omega)
              rw [← hi2, e1]
              rfl
            rw [e0, if_neg (by omega)] at hK
            obtain ⟨b0, o0, p0, ea0, hp0, hak0⟩ := h.actor (i := 0) (by omega)
            refine .mk b0 o0 0 ea0 rfl (by show 0 < an; omega) ?_
            conv => cbv
            refine .mk (EA p0.own.len) rfl hp0.1 ?_
            conv => cbv
            have q0 := hak0.own.len
            refine OKS.loopH (fun (p : Nat × Mem) => p.1 ≤ an ∧ (∀ j (hj : j < acts.length), j < p.1 → actOk acts[0].own.len log j acts[j] = true) ∧ ∀ b, M b ≠ none → p.2 b = M b) (fun p => [(56, EA p.1)]) (fun _ => [(10, .none)]) (fun p => p.2) (fun p => an - p.1) (0, M) ⟨by simp, fun j _ h => absurd h (by simp), fun _ _ => rfl⟩ ?_ ?_
            · refine ⟨by cbv <;> simp, by cbv <;> simp, by cbv, Mem.le_refl _⟩
            · intro ⟨i, Mi⟩ ⟨hi1, hi2, hkp⟩ ih
              simp only at hi1 hi2 hkp
              refine ok56.go 100 (by kernel_rfl) ?_
              conv => cbv
              refine ⟨fun l1 => ?_, fun l1 => ?_⟩
              · replace l1 := of_decide_eq_true l1
                try simp only [nc] at l1
                try simp only [minF_t] at l1
                try simp only [minF_f] at l1
                try dsimp only at l1
                obtain ⟨b, o, p, ea, hp, hak⟩ := h.actor (i := i) (by omega)
                refine .mk b o i ea rfl (by show i < an; omega) ?_
                conv => cbv
                refine .mk p.avs rfl rfl (CellsAt.le (le_of_keep hkp) hp) ?_
                conv => cbv
                have q1 := hak.own.len
                have q2 := hak.told.len
                have q3 := hak.after
                have q4 := hak.asked
                have bad : ¬ (acts[i].own.len = acts[0].own.len ∧ acts[i].told.len = acts[0].own.len ∧ -1 ≤ acts[i].after ∧ acts[i].after ≤ 2000 ∧ acts[i].asked = (cntL log (i : Nat) : Nat)) → ¬ actsOk acts[0].own.len log 0 acts = true := fun hb ht => by
                  have := actsOk_iff.1 ht i (by omega)
                  simp only [actOk, Bool.and_eq_true, decide_eq_true_eq, Nat.zero_add] at this
                  omega
                refine ⟨fun l2 => ?_, fun l2 => ?_⟩
                · replace l2 := of_decide_eq_true l2
                  try simp only [nc] at l2
                  try simp only [minF_t] at l2
                  try simp only [minF_f] at l2
                  try dsimp only at l2
                  refine hK.ground rfl (Keeps.of_keep hkp) ?_
                  rw [if_neg (bad (by omega))]
                  rfl
                · replace l2 := of_decide_eq_false l2
                  try simp only [nc] at l2
                  try simp only [minF_t] at l2
                  try simp only [minF_f] at l2
                  try dsimp only at l2
                  refine ⟨fun l3 => ?_, fun l3 => ?_⟩
                  · replace l3 := of_decide_eq_true l3
                    try simp only [nc] at l3
                    try simp only [minF_t] at l3
                    try simp only [minF_f] at l3
                    try dsimp only at l3
                    refine hK.ground rfl (Keeps.of_keep hkp) ?_
                    rw [if_neg (bad (by omega))]
                    rfl
                  · replace l3 := of_decide_eq_false l3
                    try simp only [nc] at l3
                    try simp only [minF_t] at l3
                    try simp only [minF_f] at l3
                    try dsimp only at l3
                    refine ⟨fun l4 => ?_, fun l4 => ?_⟩
                    · replace l4 := of_decide_eq_true l4
                      try simp only [nc] at l4
                      try simp only [minF_t] at l4
                      try simp only [minF_f] at l4
                      try dsimp only at l4
                      refine hK.ground rfl (Keeps.of_keep hkp) ?_
                      rw [if_neg (bad (by omega))]
                      rfl
                    · replace l4 := of_decide_eq_false l4
                      try simp only [nc] at l4
                      try simp only [minF_t] at l4
                      try simp only [minF_f] at l4
                      try dsimp only at l4
                      refine ⟨fun l5 => ?_, fun l5 => ?_⟩
                      · replace l5 := of_decide_eq_true l5
                        try simp only [nc] at l5
                        try simp only [minF_t] at l5
                        try simp only [minF_f] at l5
                        try dsimp only at l5
                        refine hK.ground rfl (Keeps.of_keep hkp) ?_
                        rw [if_neg (bad (by omega))]
                        rfl
                      · replace l5 := of_decide_eq_false l5
                        try simp only [nc] at l5
                        try simp only [minF_t] at l5
                        try simp only [minF_f] at l5
                        try dsimp only at l5
                        refine CallS.spec (of_spec (hq.up ElQ.up (le_of_keep hkp)) (by omega) (i : Nat)) rfl fun B1 M1 v1 hB1 hlt1 hk1 hn1 ⟨a1, k1, ev1, h1⟩ => ⟨SA a1 (ofL log (i : Nat)).length k1, rfl, ev1.symm, ?_⟩
                        conv => cbv
                        have kp1 := keep_trans hkp hk1.keep
                        refine ⟨fun l6 => ?_, fun l6 => ?_⟩
                        · replace l6 := of_decide_eq_true l6
                          try simp only [nc] at l6
                          try simp only [minF_t] at l6
                          try simp only [minF_f] at l6
                          try dsimp only at l6
                          refine hK.ground rfl (Keeps.of_keep kp1) ?_
                          rw [ofL_len] at l6
                          rw [if_neg (bad (by omega))]
                          rfl
                        · replace l6 := of_decide_eq_false l6
                          try simp only [nc] at l6
                          try simp only [minF_t] at l6
                          try simp only [minF_f] at l6
                          try dsimp only at l6
                          rw [ofL_len] at l6
                          refine .i64 ((i + 1 : Nat) : Int) (by show (i : Int) + 1 = _; omega) (by omega) (by omega) ?_
                          conv => cbv
                          refine ih (i + 1, M1) ⟨by simp only; omega, fun j hj hji => ?_, kp1⟩ (by simp only; omega) _ ?_
                          · rcases Nat.lt_or_ge j i with hlt | hge
                            · exact hi2 j hj hlt
                            · simp only at hji
                              have : j = i := by omega
                              subst this
                              simp only [actOk, Bool.and_eq_true, decide_eq_true_eq]
                              omega
                          · refine ⟨by cbv <;> simp, by cbv <;> simp, by cbv, Mem.le_refl _⟩
              · replace l1 := of_decide_eq_false l1
                try simp only [nc] at l1
                try simp only [minF_t] at l1
                try simp only [minF_f] at l1
                try dsimp only at l1
                refine hK.ground rfl (Keeps.of_keep hkp) ?_
                have : actsOk acts[0].own.len log 0 acts = true := actsOk_iff.2 fun j hj => by rw [Nat.zero_add]; exact hi2 j hj (by omega)
                rw [if_pos this]
                rfl

end Go.SX
