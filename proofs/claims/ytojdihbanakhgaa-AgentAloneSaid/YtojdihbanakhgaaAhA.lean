/- Layer 36: actors and meetings, plainly and in memory; the queries of one actor. -/
import Derived.Test.YtojdihbanakhgaaAgU
import Derived.Test.YtojdihbanakhgaaAgP
import Derived.Test.YtojdihbanakhgaaSxFn1
namespace Go.SX
open Go.Proofs.Try Go.Proofs

/-! ### Actors -/

structure ActV where
  own : CakeV
  told : CakeV
  after : Int
  asked : Int
  deriving DecidableEq

/-- An actor's parts as they are handed over. -/
structure AP where
  own : CP
  told : CP
  after : Int
  asked : Int

abbrev AP.cells (p : AP) : List Value := [EV p.own.len, SV p.own.ca p.own.cn p.own.ck, SV p.own.da p.own.dn p.own.dk, EV p.told.len, SV p.told.ca p.told.cn p.told.ck, SV p.told.da p.told.dn p.told.dk, EV p.after, EV p.asked]
abbrev AP.avs (p : AP) : List AV := [EA p.own.len, SA p.own.ca p.own.cn p.own.ck, SA p.own.da p.own.dn p.own.dk, EA p.told.len, SA p.told.ca p.told.cn p.told.ck, SA p.told.da p.told.dn p.told.dk, EA p.after, EA p.asked]

structure Ak (M : Mem) (p : AP) (x : ActV) : Prop where
  own : Ck M p.own x.own
  told : Ck M p.told x.told
  after : p.after = x.after
  asked : p.asked = x.asked
  ia : I64 x.after
  ik : I64 x.asked

theorem Ak.up {M M' : Mem} (hl : M.le M') {p : AP} {x : ActV} (h : Ak M p x) : Ak M' p x := ⟨h.own.up hl, h.told.up hl, h.after, h.asked, h.ia, h.ik⟩

def ElA : ElR ActV := fun M cs x => ∃ p : AP, cs = p.cells ∧ Ak M p x
theorem ElA.up : ElA.Up := fun _ _ h _ _ ⟨p, e, hc⟩ => ⟨p, e, hc.up h⟩
theorem AP.one (p : AP) : ∀ u ∈ p.cells, u.oneCell' = true := fun u hu => by
  simp only [AP.cells, List.mem_cons, List.not_mem_nil, or_false] at hu
  rcases hu with rfl | rfl | rfl | rfl | rfl | rfl | rfl | rfl <;> rfl
theorem ElA.one : ∀ (M : Mem) cs x, ElA M cs x → ∀ u ∈ cs, u.oneCell' = true := by
  rintro M cs x ⟨p, rfl, _⟩
  exact p.one

abbrev RActs (M : Mem) (a : Option Addr) (n k : Nat) (l : List ActV) : Prop := RdL ElA 8 M a n k l

theorem RdL.actor {M : Mem} {a : Option Addr} {n k : Nat} {l : List ActV} (h : RActs M a n k l) {i : Nat} (hi : i < l.length) :
    ∃ b o p, a = some ⟨b, o, none⟩ ∧ CellsAt M b (o + i * 8) p.cells ∧ Ak M p l[i] := by
  obtain ⟨b, o, c, e, _, ⟨p, rfl, hp⟩, hm⟩ := h.at (List.getElem?_eq_getElem hi)
  exact ⟨b, o, p, e, hm, hp⟩

abbrev MA (aa : Option Addr) (an ak : Nat) (qa : Option Addr) (qn qk : Nat) : AV := .agg [SA aa an ak, SA qa qn qk]
abbrev MV (aa : Option Addr) (an ak : Nat) (qa : Option Addr) (qn qk : Nat) : Value := .agg #[SV aa an ak, SV qa qn qk]

/-! ### The queries of one actor -/

def ofL (l : List QV) (ag : Int) : List QV := l.filter fun q => decide (q.ag = ag)

theorem ofL_len (l : List QV) (ag : Int) : (ofL l ag).length = cntL l ag := rfl
theorem ofL_snoc (l : List QV) (q : QV) (ag : Int) : ofL (l ++ [q]) ag = if q.ag = ag then ofL l ag ++ [q] else ofL l ag := by
  unfold ofL
  rw [List.filter_append]
  by_cases h : q.ag = ag <;> simp [h]
theorem ofL_le (l : List QV) (ag : Int) : (ofL l ag).length ≤ l.length := List.length_filter_le _ _

def OfPost (l : List QV) (ag : Int) (M' : Mem) (v : Value) : Prop := ∃ a' k', v = SV a' (ofL l ag).length k' ∧ RQ M' a' (ofL l ag).length k' (ofL l ag)

set_option maxRecDepth 100000 in
theorem of_spec {l : List QV} {a : Option Addr} {n k : Nat} {M : Mem} (h : RQ M a n k l) (hs : n ≤ 1000000) (ag : Int) :
    Spec 19 #[SV a n k, EV ag] M fun _ M' v => OfPost l ag M' v := by
  have hn := h.len
  refine ok19.spec 200 [SA a n k, EA ag] rfl (by kernel_rfl) fun c K hK => ?_
  conv => cbv
  refine OKS.loopH (fun (p : Nat × Mem × Option Addr × Nat × List QV) => p.1 ≤ n ∧ p.2.2.2.2 = ofL (l.take p.1) ag ∧ OwnL ElQ c p.2.1 64 8 p.2.2.1 p.2.2.2.2.length p.2.2.2.1 p.2.2.2.2 ∧ ∀ b, M b ≠ none → p.2.1 b = M b)
    (fun p => [(5, SA p.2.2.1 p.2.2.2.2.length p.2.2.2.1), (10, EA p.1)]) (fun _ => [(7, .none)]) (fun p => p.2.1) (fun p => n - p.1) (0, M, none, 0, []) ⟨by simp, by simp [ofL], OwnL.nil, fun _ _ => rfl⟩ ?_ ?_
  · refine ⟨by cbv <;> simp, by cbv <;> simp, by cbv, Mem.le_refl _⟩
  · intro ⟨i, Mi, a', k', acc⟩ ⟨hi1, hacc, hown, hkp⟩ ih
    simp only at hi1 hacc hown hkp
    have hqM := h.up ElQ.up (le_of_keep hkp)
    refine ok19.go 100 (by kernel_rfl) ?_
    conv => cbv
    refine ⟨fun l1 => ?_, fun l1 => ?_⟩
    · replace l1 := of_decide_eq_true l1
      try simp only [nc] at l1
      try simp only [minF_t] at l1
      try simp only [minF_f] at l1
      try dsimp only at l1
      obtain ⟨b, o, ea, hp, hw⟩ := hqM.query (i := i) (by omega)
      have hsn := ofL_snoc (l.take i) l[i] ag
      rw [← take_snoc (show i < l.length by omega), ← hacc] at hsn
      have hle := ofL_le (l.take i) ag
      rw [← hacc, List.length_take] at hle
      refine .mk b o i ea rfl (by show i < n; omega) ?_
      conv => cbv
      refine .mk l[i].avs rfl rfl hp ?_
      conv => cbv
      refine ⟨fun l2 => ?_, fun l2 => ?_⟩
      · replace l2 := of_decide_eq_true l2
        try simp only [nc] at l2
        try simp only [minF_t] at l2
        try simp only [minF_f] at l2
        try dsimp only at l2
        rw [if_pos l2] at hsn
        refine .mk trivial fun b3 M3 hn3 hB3 hM3 => ?_
        conv => cbv
        have hM3' : M3 = Mi.set b3 (.row 64 8 l[i].cells) := hM3
        have kp3 : ∀ b, Mi b ≠ none → M3 b = Mi b := by rw [hM3']; exact keep_set hn3
        have hown3 := hown.keep ElQ.up kp3
        have hone : RQ M3 (some ⟨b3, 0, none⟩) 1 1 [l[i]] := RdL.one (fun _ _ _ => trivial) (CellsAt.new hM3') rfl ⟨rfl, hw⟩ (by omega)
        refine AppS.list (t := 23) (ti := ti23) (ei := ti64) rfl rfl rfl (by decide) rfl ElQ.up ElQ.one hown3 hone (by simp only [maxLen]; omega) (by show (acc.length + 1) * 64 ≤ _; omega) fun M4 a4 k4 h4 g4 => ?_
        conv => cbv
        refine .i64 ((i + 1 : Nat) : Int) (by show (i : Int) + 1 = _; omega) (by omega) (by omega) ?_
        conv => cbv
        have h4' : OwnL ElQ c M4 64 8 a4 (acc ++ [l[i]]).length k4 (acc ++ [l[i]]) := by rw [List.length_append]; exact h4
        refine ih (i + 1, M4, a4, k4, acc ++ [l[i]]) ⟨by simp only; omega, hsn.symm, h4', keep_app (keep_trans hkp kp3) hK.lt hK.lent hown3 g4⟩ (by simp only; omega) _ ?_
        refine ⟨by cbv <;> simp, by cbv <;> simp, by cbv, Mem.le_refl _⟩
      · replace l2 := of_decide_eq_false l2
        try simp only [nc] at l2
        try simp only [minF_t] at l2
        try simp only [minF_f] at l2
        try dsimp only at l2
        rw [if_neg l2] at hsn
        refine .i64 ((i + 1 : Nat) : Int) (by show (i : Int) + 1 = _; omega) (by omega) (by omega) ?_
        conv => cbv
        refine ih (i + 1, Mi, a', k', acc) ⟨by simp only; omega, hsn.symm, hown, hkp⟩ (by simp only; omega) _ ?_
        refine ⟨by cbv <;> simp, by cbv <;> simp, by cbv, Mem.le_refl _⟩
    · replace l1 := of_decide_eq_false l1
      try simp only [nc] at l1
      try simp only [minF_t] at l1
      try simp only [minF_f] at l1
      try dsimp only at l1
      have : i = l.length := by omega
      subst this
      rw [List.take_length] at hacc
      subst hacc
      exact hK.ground rfl (Keeps.of_keep hkp) ⟨a', k', rfl, hown.rd⟩

set_option maxRecDepth 100000 in
theorem refOf_spec {l : List QV} {a : Option Addr} {n k : Nat} {M : Mem} (h : RQ M a n k l) (hs : n ≤ 1000000) (ag : Int) :
    Spec 20 #[SV a n k, EV ag] M fun _ M' v => OfPost l ag M' v := by
  have hn := h.len
  refine ok20.spec 200 [SA a n k, EA ag] rfl (by kernel_rfl) fun c K hK => ?_
  conv => cbv
  refine OKS.loopH (fun (p : Nat × Mem × Option Addr × Nat × List QV) => p.1 ≤ n ∧ p.2.2.2.2 = ofL (l.take p.1) ag ∧ OwnL ElQ c p.2.1 64 8 p.2.2.1 p.2.2.2.2.length p.2.2.2.1 p.2.2.2.2 ∧ ∀ b, M b ≠ none → p.2.1 b = M b)
    (fun p => [(5, SA p.2.2.1 p.2.2.2.2.length p.2.2.2.1), (6, EA p.1)]) (fun _ => []) (fun p => p.2.1) (fun p => n - p.1) (0, M, none, 0, []) ⟨by simp, by simp [ofL], OwnL.nil, fun _ _ => rfl⟩ ?_ ?_
  · refine ⟨by cbv <;> simp, by cbv <;> simp, by cbv, Mem.le_refl _⟩
  · intro ⟨i, Mi, a', k', acc⟩ ⟨hi1, hacc, hown, hkp⟩ ih
    simp only at hi1 hacc hown hkp
    have hqM := h.up ElQ.up (le_of_keep hkp)
    refine ok20.go 100 (by kernel_rfl) ?_
    conv => cbv
    refine ⟨fun l1 => ?_, fun l1 => ?_⟩
    · replace l1 := of_decide_eq_true l1
      try simp only [nc] at l1
      try simp only [minF_t] at l1
      try simp only [minF_f] at l1
      try dsimp only at l1
      obtain ⟨b, o, ea, hp, hw⟩ := hqM.query (i := i) (by omega)
      have hsn := ofL_snoc (l.take i) l[i] ag
      rw [← take_snoc (show i < l.length by omega), ← hacc] at hsn
      have hle := ofL_le (l.take i) ag
      rw [← hacc, List.length_take] at hle
      refine .mk b o i ea rfl (by show i < n; omega) ?_
      conv => cbv
      refine .mk (EA l[i].ag) rfl hp.1 ?_
      conv => cbv
      refine ⟨fun l2 => ?_, fun l2 => ?_⟩
      · replace l2 := of_decide_eq_true l2
        try simp only [nc] at l2
        try simp only [minF_t] at l2
        try simp only [minF_f] at l2
        try dsimp only at l2
        rw [if_pos l2] at hsn
        refine .mk b o i ea rfl (by show i < n; omega) ?_
        conv => cbv
        refine .mk l[i].avs rfl rfl hp ?_
        conv => cbv
        refine .mk trivial fun b3 M3 hn3 hB3 hM3 => ?_
        conv => cbv
        have hM3' : M3 = Mi.set b3 (.row 64 8 l[i].cells) := hM3
        have kp3 : ∀ b, Mi b ≠ none → M3 b = Mi b := by rw [hM3']; exact keep_set hn3
        have hown3 := hown.keep ElQ.up kp3
        have hone : RQ M3 (some ⟨b3, 0, none⟩) 1 1 [l[i]] := RdL.one (fun _ _ _ => trivial) (CellsAt.new hM3') rfl ⟨rfl, hw⟩ (by omega)
        refine AppS.list (t := 23) (ti := ti23) (ei := ti64) rfl rfl rfl (by decide) rfl ElQ.up ElQ.one hown3 hone (by simp only [maxLen]; omega) (by show (acc.length + 1) * 64 ≤ _; omega) fun M4 a4 k4 h4 g4 => ?_
        conv => cbv
        refine .i64 ((i + 1 : Nat) : Int) (by show (i : Int) + 1 = _; omega) (by omega) (by omega) ?_
        conv => cbv
        have h4' : OwnL ElQ c M4 64 8 a4 (acc ++ [l[i]]).length k4 (acc ++ [l[i]]) := by rw [List.length_append]; exact h4
        refine ih (i + 1, M4, a4, k4, acc ++ [l[i]]) ⟨by simp only; omega, hsn.symm, h4', keep_app (keep_trans hkp kp3) hK.lt hK.lent hown3 g4⟩ (by simp only; omega) _ ?_
        refine ⟨by cbv <;> simp, by cbv <;> simp, by cbv, Mem.le_refl _⟩
      · replace l2 := of_decide_eq_false l2
        try simp only [nc] at l2
        try simp only [minF_t] at l2
        try simp only [minF_f] at l2
        try dsimp only at l2
        rw [if_neg l2] at hsn
        refine .i64 ((i + 1 : Nat) : Int) (by show (i : Int) + 1 = _; omega) (by omega) (by omega) ?_
        conv => cbv
        refine ih (i + 1, Mi, a', k', acc) ⟨by simp only; omega, hsn.symm, hown, hkp⟩ (by simp only; omega) _ ?_
        refine ⟨by cbv <;> simp, by cbv <;> simp, by cbv, Mem.le_refl _⟩
    · replace l1 := of_decide_eq_false l1
      try simp only [nc] at l1
      try simp only [minF_t] at l1
      try simp only [minF_f] at l1
      try dsimp only at l1
      have : i = l.length := by omega
      subst this
      rw [List.take_length] at hacc
      subst hacc
      exact hK.ground rfl (Keeps.of_keep hkp) ⟨a', k', rfl, hown.rd⟩

end Go.SX
