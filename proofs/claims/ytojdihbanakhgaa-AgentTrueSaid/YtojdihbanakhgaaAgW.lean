/- Law 4, plainly: what is asked replays. -/
import Derived.Test.YtojdihbanakhgaaAgU
import Derived.Test.YtojdihbanakhgaaAgQ
namespace Go.SX
open Go.Proofs.Try Go.Proofs

/-! ### Law 4: asking a list of queries -/

def ranStep (cs : List CakeV) (acc : List QV) (q : QV) : List QV :=
  if q.kind = 2 then
    if (askC markC cs acc.length q.ag q.a q.b).2 = 0 then acc ++ [⟨q.ag, 2, q.a, q.b, (askC markC cs acc.length q.ag q.a q.b).1⟩] else acc
  else
    if (askC valueC cs acc.length q.ag q.a q.b).2 = 0 then acc ++ [⟨q.ag, 1, q.a, q.b, (askC valueC cs acc.length q.ag q.a q.b).1⟩] else acc

def ranL (cs : List CakeV) (log : List QV) : List QV := log.foldl (ranStep cs) []

theorem deskC_n {cs : List CakeV} {n m : Nat} (h : deskC cs n = 0) (hm : m ≤ 2000) : deskC cs m = 0 := by
  obtain ⟨d1, d2, d3, d4, d5⟩ := deskC_ok h
  rw [deskC_ne (by omega) (by omega)] at h ⊢
  exact h

theorem askC_ok {F : CakeV → R → R → R × Int} {cs : List CakeV} {n : Nat} {ag : Int} {a b : R} (h : (askC F cs n ag a b).2 = 0) :
    deskC cs n = 0 ∧ hasC cs.length ag = true ∧ (F (getC cs ag) a b).2 = 0 ∧ n < 2000 ∧ (askC F cs n ag a b).1 = (F (getC cs ag) a b).1 := by
  unfold askC at h ⊢
  split at h
  · rename_i h1; exact absurd h h1
  · rename_i h1
    split at h
    · cases h
    · rename_i h2
      split at h
      · rename_i h3; exact absurd h h3
      · rename_i h3
        split at h
        · cases h
        · rename_i h4
          rw [if_neg h1, if_neg h2, if_neg h3, if_neg h4]
          exact ⟨by omega, by simpa using h2, by omega, by omega, rfl⟩

theorem askC_go {F : CakeV → R → R → R × Int} {cs : List CakeV} {n : Nat} {ag : Int} {a b : R} (h1 : deskC cs n = 0) (h2 : hasC cs.length ag = true) (h3 : (F (getC cs ag) a b).2 = 0) (h4 : n < 2000) :
    askC F cs n ag a b = ((F (getC cs ag) a b).1, 0) := by
  rw [askC, if_neg (by omega), if_neg (by rw [h2]; simp), if_neg (by omega), if_neg (by omega)]

theorem ranStep_right {cs : List CakeV} {acc : List QV} (h : ∀ q ∈ acc, rightC cs q = true) (q : QV) : ∀ x ∈ ranStep cs acc q, rightC cs x = true := by
  intro x hx
  unfold ranStep at hx
  split at hx
  · split at hx
    · rename_i h2
      obtain ⟨k1, k2, k3, k4, k5⟩ := askC_ok h2
      rcases List.mem_append.1 hx with hx | hx
      · exact h x hx
      · rw [List.mem_singleton] at hx
        subst hx
        simp [rightC, ansQ, ansF, k2, k3, k5]
    · exact h x hx
  · split at hx
    · rename_i h2
      obtain ⟨k1, k2, k3, k4, k5⟩ := askC_ok h2
      rcases List.mem_append.1 hx with hx | hx
      · exact h x hx
      · rw [List.mem_singleton] at hx
        subst hx
        simp [rightC, ansQ, ansF, k2, k3, k5]
    · exact h x hx

theorem fold_right {cs : List CakeV} : ∀ (log : List QV) (acc : List QV), (∀ q ∈ acc, rightC cs q = true) → ∀ x ∈ log.foldl (ranStep cs) acc, rightC cs x = true
  | [], _, h => h
  | q :: l, _, h => fold_right l _ (ranStep_right h q)

theorem ranL_right (cs : List CakeV) (log : List QV) : ∀ q ∈ ranL cs log, rightC cs q = true := fold_right log [] (fun _ h => by cases h)

theorem ranStep_len (cs : List CakeV) (acc : List QV) (q : QV) : (ranStep cs acc q).length ≤ acc.length + 1 := by
  unfold ranStep
  repeat' split
  all_goals simp

theorem fold_len {cs : List CakeV} : ∀ (log acc : List QV), (log.foldl (ranStep cs) acc).length ≤ acc.length + log.length
  | [], _ => by simp
  | q :: l, acc => by
    have h1 := fold_len (cs := cs) l (ranStep cs acc q)
    have h2 := ranStep_len cs acc q
    simp only [List.foldl_cons, List.length_cons]
    omega

theorem ranL_len (cs : List CakeV) (log : List QV) : (ranL cs log).length ≤ log.length := by
  have := fold_len (cs := cs) log []
  simpa [ranL] using this

theorem step_again {cs : List CakeV} {acc : List QV} {q : QV} (hd : deskC cs 0 = 0) (hq : rightC cs q = true) (hl : acc.length < 2000) : ranStep cs acc q = acc ++ [q] := by
  have hdn := deskC_n (m := acc.length) hd (by omega)
  simp only [rightC, Bool.and_eq_true, decide_eq_true_eq] at hq
  obtain ⟨⟨⟨⟨h1, h2⟩, h3⟩, h4⟩, h5⟩ := hq
  unfold ranStep
  by_cases hk : q.kind = 2
  · rw [ansQ, ansF, if_pos hk] at h4 h5
    rw [if_pos hk, askC_go hdn h1 h4 hl, if_pos rfl, h5, ← hk]
  · rw [ansQ, ansF, if_neg hk] at h4 h5
    have hk1 : q.kind = 1 := by omega
    rw [if_neg hk, askC_go hdn h1 h4 hl, if_pos rfl, h5, ← hk1]

theorem fold_again {cs : List CakeV} (hd : deskC cs 0 = 0) : ∀ (log acc : List QV), (∀ q ∈ log, rightC cs q = true) → acc.length + log.length ≤ 2000 → log.foldl (ranStep cs) acc = acc ++ log
  | [], acc, _, _ => by simp
  | q :: l, acc, h, hl => by
    simp only [List.length_cons] at hl
    rw [List.foldl_cons, step_again hd (h q (by simp)) (by omega), fold_again hd l _ (fun x hx => h x (by simp [hx])) (by simp; omega)]
    simp

theorem replL_all {cs : List CakeV} : ∀ (l : List QV) (i : Nat), (∀ q ∈ l, rightC cs q = true) → replL cs l i = i + l.length
  | [], i, _ => rfl
  | q :: l, i, h => by
    simp only [replL]
    rw [if_pos (h q (by simp)), replL_all l (i + 1) (fun x hx => h x (by simp [hx])), List.length_cons]
    omega

/-- The counts of the first n agents together. -/
def sumC (l : List QV) : Nat → Nat
  | 0 => 0
  | n + 1 => sumC l n + cntL l (n : Nat)

theorem sumC_nil : ∀ n, sumC [] n = 0
  | 0 => rfl
  | n + 1 => by simp [sumC, sumC_nil n, cntL]
theorem cntL_cons (q : QV) (l : List QV) (ag : Int) : cntL (q :: l) ag = (if q.ag = ag then 1 else 0) + cntL l ag := by
  unfold cntL
  rw [List.filter_cons]
  by_cases h : q.ag = ag
  · simp [h]; omega
  · simp [h]
theorem sumC_cons (q : QV) (l : List QV) : ∀ n, sumC (q :: l) n = (if 0 ≤ q.ag ∧ q.ag < n then 1 else 0) + sumC l n
  | 0 => by
    rw [if_neg (by omega)]; rfl
  | n + 1 => by
    rw [sumC, sumC, sumC_cons q l n, cntL_cons]
    have e : (if 0 ≤ q.ag ∧ q.ag < ((n + 1 : Nat) : Int) then 1 else 0) = (if 0 ≤ q.ag ∧ q.ag < (n : Int) then 1 else 0) + (if q.ag = ((n : Nat) : Int) then 1 else 0 : Nat) := by
      repeat' split
      all_goals omega
    rw [e]
    omega
theorem sumC_all (n : Nat) : ∀ (l : List QV), (∀ q ∈ l, hasC n q.ag = true) → sumC l n = l.length
  | [], _ => sumC_nil n
  | q :: l, h => by
    have hq := h q (by simp)
    simp only [hasC, Bool.and_eq_true, decide_eq_true_eq] at hq
    rw [sumC_cons, if_pos hq, sumC_all n l (fun x hx => h x (by simp [hx])), List.length_cons]
    omega
theorem sumC_le (l : List QV) : ∀ n, sumC l n ≤ n * l.length
  | 0 => by simp [sumC]
  | n + 1 => by
    have h1 := sumC_le l n
    have h2 := cntL_le l (n : Nat)
    rw [sumC, Nat.add_mul]
    omega

end Go.SX
