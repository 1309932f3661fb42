/- Lists of numbers in new rows; what a desk that was asked comes to. -/
import Derived.Test.YtojdihbanakhgaaAgP
namespace Go.SX
open Go.Proofs.Try Go.Proofs

theorem all2_ints (M : Mem) : ∀ (l : List Int), (∀ x ∈ l, I64 x) → All2 (fun c x => c.length = 1 ∧ ElI .i64 I64 M c x) (l.map fun x => [EV x]) l
  | [], _ => trivial
  | x :: l, h => ⟨⟨rfl, rfl, h x (by simp)⟩, all2_ints M l fun y hy => h y (by simp [hy])⟩

theorem flat_ints : ∀ l : List Int, (l.map fun x => [EV x]).flatten = l.map EV
  | [] => rfl
  | x :: l => by simp [flat_ints l]

theorem RI.new {M : Mem} {b T N k : Nat} {l : List Int} (h : M b = some (.row T N (l.map EV))) (hl : ∀ x ∈ l, I64 x) (hk : l.length ≤ k) : RI M (some ⟨b, 0, none⟩) l.length k l :=
  ⟨rfl, hk, (fun h => by cases h), l.map fun x => [EV x], all2_ints M l hl, fun _ => ⟨b, 0, rfl, by rw [flat_ints]; exact CellsAt.row h⟩⟩

theorem set_self (M : Mem) (b : Nat) (f : Frag) : (M.set b f) b = some f := by simp [Mem.set]

theorem le_set_off {M : Mem} {b : Nat} {Mc : Mem} {f : Frag} (h : Mc.le M) (hb : Mc b = none) : Mc.le (M.set b f) := fun i g hg => by
  have : i ≠ b := fun e => by subst e; rw [hb] at hg; cases hg
  obtain ⟨g', h1, h2⟩ := h i g hg
  exact ⟨g', by simp [Mem.set, this, h1], h2⟩
theorem of_wf' (n : Int) (h : -1000000 ≤ n ∧ n ≤ 1000000) : (R.of n).Wf := of_wf (by simp only [I64]; omega)

theorem AskPost.ok {x : R} {cs : List CakeV} {log : List QV} {q : QV} {M : Mem} {v : Value} (h : AskPost (x, 0) cs log q M v) :
    ∃ ca cn ck qa qn qk, v = .tuple #[DV ca cn ck qa qn qk, RV x, EV 0] ∧ RC M ca cn ck cs ∧ RQ M qa qn qk (log ++ [⟨q.ag, q.kind, q.a, q.b, x⟩]) := by
  obtain ⟨ca, cn, ck, qa, qn, qk, h1, h2, h3⟩ := h
  rw [if_pos rfl] at h2 h3
  exact ⟨ca, cn, ck, qa, qn, qk, h1, h2, h3⟩

end Go.SX
