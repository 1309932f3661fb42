/- Layer 36, plainly: runs side by side. -/
import Derived.Test.YtojdihbanakhgaaAhK
namespace Go.SX
open Go.Proofs.Try Go.Proofs

theorem ofL_cons (q : QV) (l : List QV) (ag : Int) : ofL (q :: l) ag = if q.ag = ag then q :: ofL l ag else ofL l ag := by
  unfold ofL
  rw [List.filter_cons]
  by_cases h : q.ag = ag <;> simp [h]

theorem stepE_eq {m n : MtV} {q : QV} (h1 : hasC m.acts.length q.ag = true) (h2 : hasC n.acts.length q.ag = true) (h3 : actC (getA m.acts q.ag) = actC (getA n.acts q.ag)) (h4 : m.log.length < 2000) (h5 : n.log.length < 2000) : stepE n q = stepE m q := by
  have e : ansM n q = ansM m q := by rw [ansM, ansM, h3]
  unfold stepE
  rw [h1, h2, e, if_neg (show ¬ 2000 ≤ n.log.length by omega), if_neg (show ¬ 2000 ≤ m.log.length by omega)]

theorem stepM_len {m : MtV} {q : QV} (h : (stepE m q).2 = 0) : (stepM m q).acts.length = m.acts.length ∧ (stepM m q).log.length = m.log.length + 1 := by
  obtain ⟨k, hk, hqk, es⟩ := stepM_eq h
  rw [es]
  simp

/-- What one question does to an actor. -/
theorem stepM_at {m : MtV} {q : QV} (h : (stepE m q).2 = 0) {w : Nat} (hw : w < m.acts.length) (hw' : w < (stepM m q).acts.length) :
    (stepM m q).acts[w] = if q.ag = (w : Int) then m.acts[w].more else m.acts[w] := by
  obtain ⟨k, hk, hqk, es⟩ := stepM_eq h
  have e1 : (stepM m q).acts[w] = if k = w then m.acts[k].more else m.acts[w] := by
    simp only [es, List.getElem_set]
  rw [e1]
  by_cases e2 : k = w
  · subst e2
    rw [if_pos rfl, if_pos hqk]
  · rw [if_neg e2, if_neg (by omega)]

theorem stepM_log {m : MtV} {q : QV} (h : (stepE m q).2 = 0) : (stepM m q).log = m.log ++ [⟨q.ag, q.kind, q.a, q.b, (stepE m q).1⟩] := by
  rw [stepM, if_pos h]

theorem stepM_of {m : MtV} {q : QV} (h : (stepE m q).2 = 0) (w : Int) : ofL (stepM m q).log w = if q.ag = w then ofL m.log w ++ [⟨q.ag, q.kind, q.a, q.b, (stepE m q).1⟩] else ofL m.log w := by
  rw [stepM_log h, ofL_snoc]

theorem runM_asked : ∀ (l : List QV) (m : MtV) (i j : Nat) (h1 : j < m.acts.length) (h2 : j < (runM m l i).1.acts.length), m.acts[j].asked ≤ (runM m l i).1.acts[j].asked
  | [], m, i, j, h1, h2 => Int.le_refl _
  | q :: l, m, i, j, h1, h2 => by
    by_cases e : (stepE m q).2 ≠ 0
    · have e1 : runM m (q :: l) i = (m, i, (stepE m q).2) := by rw [runM, if_pos e]
      simp only [e1]
      exact Int.le_refl _
    · have e1 : runM m (q :: l) i = runM (stepM m q) l (i + 1) := by rw [runM, if_neg e]
      have e : (stepE m q).2 = 0 := Decidable.byContradiction e
      simp only [e1] at h2 ⊢
      have h3 : j < (stepM m q).acts.length := by rw [(stepM_len e).1]; exact h1
      have ih := runM_asked l (stepM m q) (i + 1) j h3 h2
      rw [stepM_at e h1 h3] at ih
      split at ih
      · have : m.acts[j].more.asked = m.acts[j].asked + 1 := rfl
        omega
      · exact ih

/-- Meetings whose actors answer alike. -/
theorem runM_sim {F : Nat → Int} {P : Nat → ActV → ActV → Prop} (hP : ∀ j x y, P j x y → x.asked ≤ F j → actC x = actC y) (hm : ∀ j x y, P j x y → P j x.more y.more) : ∀ (l : List QV) (m n : MtV) (i : Nat), m.log = n.log → m.acts.length = n.acts.length →
    (∀ j (h1 : j < m.acts.length) (h2 : j < n.acts.length), P j m.acts[j] n.acts[j]) → (∀ j (h : j < (runM m l i).1.acts.length), (runM m l i).1.acts[j].asked ≤ F j) →
    (runM n l i).1.log = (runM m l i).1.log ∧ (runM n l i).2 = (runM m l i).2
  | [], m, n, i, hl, _, _, _ => ⟨hl.symm, rfl⟩
  | q :: l, m, n, i, hl, hn, hp, hF => by
    have hE : stepE n q = stepE m q := by
      cases hh : hasC m.acts.length q.ag with
      | false =>
        have e1 : stepE m q = (R.zero, 2) := by rw [stepE, if_pos hh]
        have e2 : stepE n q = (R.zero, 2) := by rw [stepE, if_pos (by rw [← hn]; exact hh)]
        rw [e1, e2]
      | true =>
        have hh' : hasC n.acts.length q.ag = true := by rw [← hn]; exact hh
        obtain ⟨j, hqj, hj⟩ := hasC_nat hh
        have hlen := (runM_ok (q :: l) m i).len
        have hA := runM_asked (q :: l) m i j hj (by rw [hlen]; exact hj)
        have hFj := hF j (by rw [hlen]; exact hj)
        have h3 : actC (getA m.acts q.ag) = actC (getA n.acts q.ag) := by
          rw [getA_eq hqj hj, getA_eq hqj (by rw [← hn]; exact hj)]
          exact hP j _ _ (hp j hj (by rw [← hn]; exact hj)) (by omega)
        have e : ansM n q = ansM m q := by rw [ansM, ansM, h3]
        unfold stepE
        rw [hh, hh', e, hl]
    by_cases e : (stepE m q).2 ≠ 0
    · have e1 : runM m (q :: l) i = (m, i, (stepE m q).2) := by rw [runM, if_pos e]
      have e2 : runM n (q :: l) i = (n, i, (stepE n q).2) := by rw [runM, if_pos (by rw [hE]; exact e)]
      rw [e1, e2, hE]
      exact ⟨hl.symm, rfl⟩
    · have e1 : runM m (q :: l) i = runM (stepM m q) l (i + 1) := by rw [runM, if_neg e]
      have e2 : runM n (q :: l) i = runM (stepM n q) l (i + 1) := by rw [runM, if_neg (by rw [hE]; exact e)]
      have e : (stepE m q).2 = 0 := Decidable.byContradiction e
      have e' : (stepE n q).2 = 0 := by rw [hE]; exact e
      rw [e1] at hF
      rw [e1, e2]
      refine runM_sim hP hm l (stepM m q) (stepM n q) (i + 1) ?_ ?_ ?_ hF
      · rw [stepM_log e, stepM_log e', hE, hl]
      · rw [(stepM_len e).1, (stepM_len e').1, hn]
      · intro j h1 h2
        have k1 : j < m.acts.length := by rw [← (stepM_len e).1]; exact h1
        have k2 : j < n.acts.length := by rw [← hn]; exact k1
        rw [stepM_at e k1 h1, stepM_at e' k2 h2]
        split
        · exact hm j _ _ (hp j k1 k2)
        · exact hp j k1 k2

/-- An actor alone gives the same answers. -/
theorem alone1 : ∀ (q : List QV) (m n : MtV) (i j w : Nat) (h1 : w < m.acts.length) (h2 : w < n.acts.length), m.acts[w] = n.acts[w] → ofL m.log (w : Nat) = n.log → m.log.length + q.length ≤ 2000 → (runM m q i).2.2 = 0 →
    (runM n (ofL q (w : Nat)) j).2 = (j + (ofL q (w : Nat)).length, 0) ∧ ofL (runM m q i).1.log (w : Nat) = (runM n (ofL q (w : Nat)) j).1.log
  | [], m, n, i, j, w, h1, h2, ha, hl, hb, h => ⟨by simp [runM, ofL], hl⟩
  | q :: l, m, n, i, j, w, h1, h2, ha, hl, hb, h => by
    simp only [List.length_cons] at hb
    by_cases e : (stepE m q).2 ≠ 0
    · have e1 : runM m (q :: l) i = (m, i, (stepE m q).2) := by rw [runM, if_pos e]
      rw [e1] at h
      exact absurd h e
    · have e1 : runM m (q :: l) i = runM (stepM m q) l (i + 1) := by rw [runM, if_neg e]
      have e : (stepE m q).2 = 0 := Decidable.byContradiction e
      rw [e1] at h ⊢
      obtain ⟨c1, c2, c3, c4⟩ := stepE_ok e
      have l1 := stepM_len e
      have w1 : w < (stepM m q).acts.length := by rw [l1.1]; exact h1
      have hnl : n.log.length ≤ m.log.length := by rw [← hl]; exact ofL_le _ _
      by_cases hq : q.ag = (w : Int)
      · rw [ofL_cons, if_pos hq]
        have hh : hasC n.acts.length q.ag = true := by simp [hasC]; omega
        have hE : stepE n q = stepE m q := stepE_eq c1 hh (by rw [getA_eq hq h1, getA_eq hq h2, ha]) (by omega) (by omega)
        have e' : (stepE n q).2 = 0 := by rw [hE]; exact e
        have e2 : runM n (q :: ofL l (w : Nat)) j = runM (stepM n q) (ofL l (w : Nat)) (j + 1) := by rw [runM, if_neg (by rw [e']; simp)]
        have w2 : w < (stepM n q).acts.length := by rw [(stepM_len e').1]; exact h2
        have ih := alone1 l (stepM m q) (stepM n q) (i + 1) (j + 1) w w1 w2 (by rw [stepM_at e h1 w1, stepM_at e' h2 w2, ha]) (by rw [stepM_of e, if_pos hq, stepM_log e', hE, hl]) (by omega) h
        rw [e2, ih.1]
        refine ⟨?_, ih.2⟩
        simp only [List.length_cons, Prod.mk.injEq, and_true]
        omega
      · rw [ofL_cons, if_neg hq]
        exact alone1 l (stepM m q) n (i + 1) j w w1 h2 (by rw [stepM_at e h1 w1, if_neg hq]; exact ha) (by rw [stepM_of e, if_neg hq]; exact hl) (by omega) h

theorem alone2 : ∀ (q : List QV) (m n : MtV) (i w : Nat) (h1 : w < m.acts.length) (h2 : w < n.acts.length), m.acts[w] = n.acts[w] → ofL m.log (w : Nat) = ofL n.log (w : Nat) → m.log.length + q.length ≤ 2000 → n.log.length + q.length ≤ 2000 → (runM m q i).2.2 = 0 →
    ofL (runM m (q.take ((runM n q i).2.1 - i)) i).1.log (w : Nat) = ofL (runM n q i).1.log (w : Nat)
  | [], m, n, i, w, h1, h2, ha, hl, hb, hb', h => by simpa [runM] using hl
  | q :: l, m, n, i, w, h1, h2, ha, hl, hb, hb', h => by
    simp only [List.length_cons] at hb hb'
    by_cases e : (stepE m q).2 ≠ 0
    · have e1 : runM m (q :: l) i = (m, i, (stepE m q).2) := by rw [runM, if_pos e]
      rw [e1] at h
      exact absurd h e
    · have e1 : ∀ l, runM m (q :: l) i = runM (stepM m q) l (i + 1) := fun l => by rw [runM, if_neg e]
      have e : (stepE m q).2 = 0 := Decidable.byContradiction e
      rw [e1] at h
      obtain ⟨c1, c2, c3, c4⟩ := stepE_ok e
      by_cases f : (stepE n q).2 ≠ 0
      · have e2 : runM n (q :: l) i = (n, i, (stepE n q).2) := by rw [runM, if_pos f]
        rw [e2]
        simpa [runM] using hl
      · have e2 : runM n (q :: l) i = runM (stepM n q) l (i + 1) := by rw [runM, if_neg f]
        have f : (stepE n q).2 = 0 := Decidable.byContradiction f
        obtain ⟨g1, g2, g3, g4⟩ := stepE_ok f
        have lo := (runM_ok l (stepM n q) (i + 1)).lo
        rw [e2]
        have e3 : (runM (stepM n q) l (i + 1)).2.1 - i = ((runM (stepM n q) l (i + 1)).2.1 - (i + 1)) + 1 := by omega
        rw [e3, List.take_succ_cons, e1]
        have l1 := stepM_len e
        have l2 := stepM_len f
        have w1 : w < (stepM m q).acts.length := by rw [l1.1]; exact h1
        have w2 : w < (stepM n q).acts.length := by rw [l2.1]; exact h2
        refine alone2 l (stepM m q) (stepM n q) (i + 1) w w1 w2 (by rw [stepM_at e h1 w1, stepM_at f h2 w2, ha]) ?_ (by omega) (by omega) h
        rw [stepM_of e, stepM_of f]
        by_cases hq : q.ag = (w : Int)
        · have hE : stepE n q = stepE m q := stepE_eq c1 g1 (by rw [getA_eq hq h1, getA_eq hq h2, ha]) c3 g3
          rw [if_pos hq, if_pos hq, hE, hl]
        · rw [if_neg hq, if_neg hq]; exact hl

/-- The first part of a run's log. -/
theorem runM_take {m : MtV} {q : List QV} {i : Nat} (hi : i ≤ q.length) (hm : m.log = []) (h : (runM m q 0).2.2 = 0) : (runM m q 0).1.log.take i = (runM m (q.take i) 0).1.log := by
  have hs := runM_app (q.take i) (q.drop i) m 0
  rw [List.take_append_drop] at hs
  have r1 := runM_ok (q.take i) m 0
  have tk : (q.take i).length = i := by rw [List.length_take]; omega
  rw [tk] at hs
  have h0 : (runM m (q.take i) 0).2.2 = 0 := by
    refine Decidable.byContradiction fun e => ?_
    rw [if_pos e] at hs
    rw [hs] at h
    exact e h
  rw [if_neg (fun k => k h0)] at hs
  rw [hs]
  obtain ⟨L, g1, g2, g3⟩ := (runM_ok (q.drop i) (runM m (q.take i) 0).1 (0 + i)).log
  obtain ⟨L', g1', g2', g3'⟩ := r1.log
  have hf := r1.fin.1 h0
  rw [tk] at hf
  have hlen : (runM m (q.take i) 0).1.log.length = i := by
    rw [g1', hm, List.nil_append, g2']
    omega
  rw [g1, List.take_append_of_le_length (by omega), List.take_of_length_le (by omega)]

end Go.SX
