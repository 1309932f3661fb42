/- Layer 36: what a run answers is right, plainly. -/
import Derived.Test.YtojdihbanakhgaaAjF
namespace Go.SX
open Go.Proofs.Try Go.Proofs

def toldAt (x : ActV) (k : Nat) : Bool := decide (0 ≤ x.after) && decide (x.after ≤ (k : Int))

/-- What holds of a meeting that came of actors l that were not asked yet. -/
structure TrueI (l : List ActV) (m : MtV) : Prop where
  ok : meetC m.acts m.log = 0
  len : m.acts.length = l.length
  same : ∀ i (h : i < m.acts.length) (h' : i < l.length), m.acts[i].own = l[i].own ∧ m.acts[i].told = l[i].told ∧ m.acts[i].after = l[i].after
  has : ∀ q ∈ m.log, hasC l.length q.ag = true
  right : ∀ i (h : i < l.length) k (hk : k < (ofL m.log (i : Nat)).length), rightC (cakesL l (toldAt l[i] k)) (ofL m.log (i : Nat))[k] = true

theorem TrueI.start {l : List ActV} (h : meetC l [] = 0) : TrueI l ⟨l, []⟩ :=
  ⟨h, rfl, fun _ _ _ => ⟨rfl, rfl, rfl⟩, (fun _ h => by cases h), fun i _ k hk => absurd hk (by simp [ofL])⟩

theorem TrueI.step {l : List ActV} {m : MtV} (t : TrueI l m) {q : QV} (h : (stepE m q).2 = 0) : TrueI l (stepM m q) := by
  have hok := stepM_ok t.ok h
  obtain ⟨h1, h2, h3, h4⟩ := stepE_ok h
  obtain ⟨i, hi, hqi, e⟩ := stepM_eq h
  obtain ⟨d1, d2, d3, d4, d5⟩ := meetC_ok t.ok
  have hil : i < l.length := by rw [← t.len]; exact hi
  obtain ⟨s1, s2, s3⟩ := t.same i hi hil
  have d5i := d5 i hi
  rw [e] at hok ⊢
  have hga : getA m.acts q.ag = m.acts[i] := getA_eq hqi hi
  have hans : ansM m q = ansK q.kind (actC m.acts[i]) q.a q.b := by rw [ansM, hga]
  refine ⟨hok, by simp [t.len], fun j hj hj' => ?_, fun x hx => ?_, fun j hj k hk => ?_⟩
  · simp only [List.length_set] at hj
    simp only [List.getElem_set]
    split
    · rename_i e1
      subst e1
      exact t.same i hi hj'
    · exact t.same j hj hj'
  · rcases List.mem_append.1 hx with hx | hx
    · exact t.has x hx
    · rw [List.mem_singleton] at hx
      subst hx
      rw [← t.len]
      exact h1
  · have key : ∀ (L : List QV) (hL : ofL (m.log ++ [⟨q.ag, q.kind, q.a, q.b, (ansM m q).1⟩]) (j : Nat) = L) (hk : k < L.length), rightC (cakesL l (toldAt l[j] k)) L[k] = true := by
      intro L hL hkL
      rw [ofL_snoc] at hL
      simp only at hL
      split at hL
      · rename_i e1
        have e2 : j = i := by omega
        subst e2
        subst hL
        simp only [List.length_append, List.length_singleton] at hkL
        rw [List.getElem_append]
        split
        · rename_i hlt
          exact t.right j hj k hlt
        · rename_i hge
          have ek : k = (ofL m.log (j : Nat)).length := by omega
          simp only [show k - (ofL m.log (j : Nat)).length = 0 by omega, List.getElem_cons_zero]
          have hc : getC (cakesL l (toldAt l[j] k)) q.ag = actC m.acts[j] := by
            rw [getC_eq hqi (by simp [cakesL]; exact hil)]
            have ea : m.acts[j].asked = (k : Int) := by
              have := d5i.2.2.2.2
              rw [this, ek, ofL_len]
            simp only [cakesL, List.getElem_map, actC, toldAt]
            rw [ea, s1, s2, s3]
            have a1 := d5i.2.2.1
            rw [s3] at a1
            by_cases c1 : 0 ≤ l[j].after
            · by_cases c2 : l[j].after ≤ (k : Int)
              · rw [if_pos ⟨by omega, c2⟩]
                simp [c1, c2]
              · rw [if_neg (by omega)]
                simp [c2]
            · rw [if_neg (by omega)]
              simp [c1]
          rw [hans] at h2 ⊢
          have hcl : (cakesL l (toldAt l[j] k)).length = m.acts.length := by simp [cakesL, t.len]
          have hkd : q.kind = 1 ∨ q.kind = 2 := by
            unfold ansK at h2
            split at h2
            · rename_i h; exact .inl h
            · split at h2
              · rename_i h; exact .inr h
              · cases h2
          have hQ : ansQ (cakesL l (toldAt l[j] k)) ⟨q.ag, q.kind, q.a, q.b, (ansK q.kind (actC m.acts[j]) q.a q.b).1⟩ = ansK q.kind (actC m.acts[j]) q.a q.b := by
            simp only [ansQ, ansF]
            rw [hc]
            unfold ansK
            rcases hkd with e | e
            · rw [if_neg (by omega), if_pos e]
            · rw [if_pos e, if_neg (by omega), if_pos e]
          rw [rightC, hQ, hcl, h1, h2]
          simp
          omega
      · subst hL
        exact t.right j hj k hkL
    exact key _ rfl hk

theorem TrueI.run {l : List ActV} : ∀ (q : List QV) (m : MtV) (i : Nat), TrueI l m → TrueI l (runM m q i).1
  | [], m, i, t => t
  | x :: q, m, i, t => by
    simp only [runM]
    split
    · exact t
    · rename_i h
      exact TrueI.run q _ _ (t.step (by omega))

theorem TrueI.cakes {l : List ActV} {m : MtV} (t : TrueI l m) : cakesL m.acts false = cakesL l false := by
  refine List.ext_getElem (by simp [cakesL, t.len]) fun i h1 h2 => ?_
  simp only [cakesL, List.getElem_map, List.length_map] at h1 h2 ⊢
  exact (t.same i h1 h2).1

/-- Who did not change is honest. -/
theorem TrueI.honest {l : List ActV} {m : MtV} (t : TrueI l m) {i : Nat} (hi : i < l.length) (h : l[i].after = -1 ∨ ((ofL m.log (i : Nat)).length : Int) ≤ l[i].after) : honB (cakesL m.acts false) (ofL m.log (i : Nat)) = true := by
  obtain ⟨d1, d2, d3, d4, d5⟩ := meetC_ok t.ok
  have hle := ofL_le m.log (i : Nat)
  rw [honB_eq (desk_of_meet t.ok false (by omega)), List.all_eq_true]
  intro x hx
  obtain ⟨k, hk, rfl⟩ := List.getElem_of_mem hx
  have hr := t.right i hi k hk
  have e : toldAt l[i] k = false := by
    simp only [toldAt, Bool.and_eq_false_iff, decide_eq_false_iff_not]
    omega
  rw [e] at hr
  rw [t.cakes]
  exact hr

theorem TrueI.replay {l : List ActV} {m : MtV} (t : TrueI l m) (hl : meetC l [] = 0) (h : ∀ x ∈ l, x.after = -1) : replayC (cakesL l false) m.log = (((m.log.length : Nat) : Int), 0) := by
  obtain ⟨d1, d2, d3, d4, d5⟩ := meetC_ok t.ok
  have hd := desk_of_meet hl false d3
  obtain ⟨_, _, k3⟩ := replL_len (cs := cakesL l false) m.log 0
  rw [replayC, if_neg (by omega), k3.2, Nat.zero_add]
  rw [List.all_eq_true]
  intro x hx
  obtain ⟨i, hxi, hi⟩ := hasC_nat (t.has x hx)
  have hxo : x ∈ ofL m.log (i : Nat) := List.mem_filter.2 ⟨hx, decide_eq_true hxi⟩
  obtain ⟨k, hk, rfl⟩ := List.getElem_of_mem hxo
  have hr := t.right i hi k hk
  have e : toldAt l[i] k = false := by
    have := h _ (List.getElem_mem hi)
    simp only [toldAt, Bool.and_eq_false_iff, decide_eq_false_iff_not]
    omega
  rw [e] at hr
  exact hr

end Go.SX
