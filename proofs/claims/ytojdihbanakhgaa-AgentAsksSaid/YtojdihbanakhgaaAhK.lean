/- Layer 36, plainly: what runs are. -/
import Derived.Test.YtojdihbanakhgaaAhH
namespace Go.SX
open Go.Proofs.Try Go.Proofs

/-! ### Parts of slices -/

theorem map_add_zero {a : Option Addr} {sz : Nat} : a.map (·.add (0 * sz)) = a := by
  cases a with
  | none => rfl
  | some ad => simp [Addr.add]

section
variable {α : Type} {R : ElR α} {sz : Nat} {M : Mem} {a : Option Addr} {n cap : Nat} {l : List α}

theorem RdL.slicePre (h : RdL R sz M a n cap l) (k : Nat) (hk : k ≤ l.length) : RdL R sz M (if cap = 0 then a else a.map (·.add (0 * sz))) (k - 0) (cap - 0) (l.take k) := by
  have e : (if cap = 0 then a else a.map (·.add (0 * sz))) = a := by
    split
    · rfl
    · exact map_add_zero
  rw [e]
  exact h.take k hk

theorem flat_all2 {cs : List (List Value)} : ∀ {l : List α}, All2 (fun c x => c.length = sz ∧ R M c x) cs l → cs.flatten.length = l.length * sz := by
  induction cs with
  | nil => intro l h; cases l with
    | nil => simp
    | cons x l => exact h.elim
  | cons y cs ih => intro l h; cases l with
    | nil => exact h.elim
    | cons x l =>
      have := ih h.2
      rw [List.flatten_cons, List.length_append, h.1.1, this, List.length_cons, Nat.add_mul]
      omega

theorem RdL.sliceSuf (h : RdL R sz M a n cap l) (k : Nat) (hk : k ≤ l.length) : RdL R sz M (if cap = k then a else a.map (·.add (k * sz))) (n - k) (cap - k) (l.drop k) := by
  have hn := h.len
  have hle := h.le
  refine ⟨by rw [List.length_drop]; omega, by rw [List.length_drop]; omega, fun e => ?_, ?_⟩
  · split at e
    · have := h.nil e; omega
    · have : a = none := by simpa using e
      have := h.nil this; omega
  · obtain ⟨cs, h1, h2⟩ := h.els
    refine ⟨cs.drop k, h1.drop k, fun hne => ?_⟩
    have hlt : k < l.length := by
      rcases Nat.lt_or_ge k l.length with h' | h'
      · exact h'
      · exact absurd (List.drop_eq_nil_of_le h') hne
    obtain ⟨b, o, e, hc⟩ := h2 (fun e => by rw [e] at hlt; simp at hlt)
    have hf : cs.flatten = (cs.take k).flatten ++ (cs.drop k).flatten := by rw [← List.flatten_append, List.take_append_drop]
    rw [hf, CellsAt.append, flat_all2 (h1.take k), List.length_take, Nat.min_eq_left hk] at hc
    refine ⟨b, o + k * sz, ?_, hc.2⟩
    rw [if_neg (by omega), e]
    simp [addr_add]
end

/-! ### Runs -/

def unansw (q : QV) : QV := ⟨q.ag, q.kind, q.a, q.b, R.zero⟩

structure RunOk (m : MtV) (l : List QV) (i : Nat) (r : MtV × Nat × Int) : Prop where
  lo : i ≤ r.2.1
  hi : r.2.1 ≤ i + l.length
  fin : r.2.2 = 0 ↔ r.2.1 = i + l.length
  log : ∃ L, r.1.log = m.log ++ L ∧ L.length = r.2.1 - i ∧ ∀ j (h1 : j < L.length) (h2 : j < l.length), unansw L[j] = unansw l[j]
  len : r.1.acts.length = m.acts.length
  acts : ∀ j (h1 : j < r.1.acts.length) (h2 : j < m.acts.length), r.1.acts[j].own = m.acts[j].own ∧ r.1.acts[j].told = m.acts[j].told ∧ r.1.acts[j].after = m.acts[j].after
  ok : meetC m.acts m.log = 0 → meetC r.1.acts r.1.log = 0

theorem runM_ok : ∀ (l : List QV) (m : MtV) (i : Nat), RunOk m l i (runM m l i)
  | [], m, i => ⟨Nat.le_refl _, by simp [runM], by simp [runM], ⟨[], by simp [runM], by simp [runM], fun j h1 => by simp at h1⟩, rfl, fun j _ _ => ⟨rfl, rfl, rfl⟩, fun h => h⟩
  | q :: l, m, i => by
    simp only [runM]
    split
    · rename_i e
      refine ⟨Nat.le_refl _, by simp, ?_, ⟨[], by simp, by simp, fun j h1 => by simp at h1⟩, rfl, fun j _ _ => ⟨rfl, rfl, rfl⟩, fun h => h⟩
      constructor
      · intro h; exact absurd h e
      · intro h; simp at h
    · rename_i e
      have e : (stepE m q).2 = 0 := Decidable.byContradiction e
      obtain ⟨k, hk, hqk, es⟩ := stepM_eq e
      have ih := runM_ok l (stepM m q) (i + 1)
      obtain ⟨h1, h2, h3, ⟨L, g1, g2, g3⟩, h5, h6, h7⟩ := ih
      have es1 := congrArg MtV.log es
      have es2 := congrArg MtV.acts es
      simp only at es1 es2
      refine ⟨by omega, by simp; omega, by rw [h3]; simp only [List.length_cons]; omega, ⟨(⟨q.ag, q.kind, q.a, q.b, (ansM m q).1⟩ : QV) :: L, ?_, ?_, ?_⟩, ?_, ?_, fun h => h7 (stepM_ok h e)⟩
      · rw [g1, es1]; simp
      · simp only [List.length_cons]; omega
      · intro j j1 j2
        cases j with
        | zero => rfl
        | succ j => exact g3 j (by simpa using j1) (by simpa using j2)
      · rw [h5, es2]; simp
      · intro j j1 j2
        have j3 : j < (stepM m q).acts.length := by rw [es]; simpa using j2
        obtain ⟨k1, k2, k3⟩ := h6 j j1 j3
        have e1 : (stepM m q).acts[j] = if k = j then m.acts[k].more else m.acts[j] := by
          simp only [es, List.getElem_set]
        rw [e1] at k1 k2 k3
        rw [k1, k2, k3]
        by_cases e2 : k = j
        · subst e2
          simp [ActV.more]
        · simp [e2]

theorem runM_shift : ∀ (l : List QV) (m : MtV) (i : Nat), runM m l i = ((runM m l 0).1, i + (runM m l 0).2.1, (runM m l 0).2.2)
  | [], m, i => by simp [runM]
  | q :: l, m, i => by
    simp only [runM]
    split
    · simp
    · rw [runM_shift l (stepM m q) (i + 1), runM_shift l (stepM m q) (0 + 1)]
      simp only
      congr 2
      omega

theorem runM_app : ∀ (l1 l2 : List QV) (m : MtV) (i : Nat), runM m (l1 ++ l2) i = if (runM m l1 i).2.2 ≠ 0 then runM m l1 i else runM (runM m l1 i).1 l2 (i + l1.length)
  | [], l2, m, i => by simp [runM]
  | q :: l1, l2, m, i => by
    simp only [List.cons_append, runM]
    split
    · rename_i e; rfl
    · rw [runM_app l1 l2 (stepM m q) (i + 1), List.length_cons]
      have e : i + 1 + l1.length = i + (l1.length + 1) := by omega
      rw [e]

end Go.SX
