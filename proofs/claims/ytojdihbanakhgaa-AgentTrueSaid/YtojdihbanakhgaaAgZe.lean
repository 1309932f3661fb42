/- A cake in a row of copies is replaced. -/
import Derived.Test.YtojdihbanakhgaaCopyA
import Derived.Test.YtojdihbanakhgaaAgSa
namespace Go.SX
open Go.Proofs.Try Go.Proofs

theorem flat_len : ∀ ps : List CP, ((ps.map CP.cells).flatten).length = ps.length * 3
  | [] => rfl
  | p :: ps => by simp [flat_len ps]; omega

theorem splice_cells : ∀ (ps : List CP) (i : Nat) (p : CP), i < ps.length → spliceV ((ps.map CP.cells).flatten) (i * 3) p.cells = ((ps.set i p).map CP.cells).flatten
  | [], i, p, h => by simp at h
  | q :: ps, 0, p, _ => by simp [spliceV, CP.cells]
  | q :: ps, i + 1, p, h => by
    have ih := splice_cells ps i p (by simpa using h)
    rw [List.set_cons_succ, List.map_cons, List.map_cons, List.flatten_cons, List.flatten_cons, ← ih]
    have hq : q.cells.length = 3 := rfl
    unfold spliceV
    have e1 : (q.cells ++ (ps.map CP.cells).flatten).take ((i + 1) * 3) = q.cells ++ ((ps.map CP.cells).flatten).take (i * 3) := by
      rw [List.take_append, hq, List.take_of_length_le (by rw [hq]; omega)]
      congr 2
      omega
    have e2 : (q.cells ++ (ps.map CP.cells).flatten).drop ((i + 1) * 3 + p.cells.length) = ((ps.map CP.cells).flatten).drop (i * 3 + p.cells.length) := by
      rw [List.drop_append, hq, List.drop_of_length_le (by rw [hq]; omega), List.nil_append]
      congr 1
      omega
    rw [e1, e2, List.append_assoc, List.append_assoc, List.append_assoc]

theorem RowN.keep {B : Nat} {M M' : Mem} {a : Option Addr} {n k : Nat} {cs : List CakeV} (h : RowN B M a n k cs) (hk : ∀ b, M b ≠ none → M' b = M b) : RowN B M' a n k cs :=
  let ⟨h0, ps, Mc, h1, h2, h3⟩ := h
  ⟨h0, ps, Mc, Mem.le_trans h1 (le_of_keep hk), h2, h3.imp_right fun ⟨g, e1, e2, e3, e4⟩ => ⟨g, e1, e2, by rw [hk g (by rw [e3]; simp)]; exact e3, e4⟩⟩

theorem RowN.set {B : Nat} {M : Mem} {a : Option Addr} {n k : Nat} {cs : List CakeV} (h : RowN B M a n k cs) {i : Nat} (hi : i < n) {p : CP} {x : CakeV} {M0 : Mem} (h0 : M0.le M) (h0g : ∀ g, a = some ⟨g, 0, none⟩ → B ≤ g → M g ≠ none → M0 g = none) (hp : Ck M0 p x) :
    ∃ g cells, a = some ⟨g, 0, none⟩ ∧ B ≤ g ∧ M g = some (.row 40 (k * 3) cells) ∧ i * 3 + 3 ≤ cells.length ∧ RC (M.set g (.row 40 (k * 3) (spliceV cells (i * 3) p.cells))) a n k (cs.set i x) := by
  obtain ⟨e0, ps, Mc, h1, h2, h3⟩ := h
  rcases h3 with ⟨_, e, _⟩ | ⟨g, e1, e2, e3, e4, e5, e6⟩
  · omega
  have hl := h2.length
  refine ⟨g, _, e1, e2, e3, by rw [flat_len]; omega, ?_⟩
  rw [splice_cells ps i p (by omega)]
  have hg := h0g g e1 e2 (by rw [e3]; simp)
  have l1 : Mc.le (M.set g (.row 40 (k * 3) ((ps.set i p).map CP.cells).flatten)) := le_set_off h1 e4
  have l2 : M0.le (M.set g (.row 40 (k * 3) ((ps.set i p).map CP.cells).flatten)) := le_set_off h0 hg
  refine ⟨by simp [e0], by simp only [List.length_set]; omega, (fun e => by rw [e1] at e; cases e), (ps.set i p).map CP.cells, ?_, fun _ => ⟨g, 0, e1, CellsAt.row (set_self ..)⟩⟩
  exact RowC.all ((h2.mono fun _ _ hc => hc.up l1).set i (hp.up l2))

theorem wf_askC (F : CakeV → R → R → R × Int) (cs : List CakeV) (n : Nat) (ag : Int) (a : R) {b : R} (h : ∀ c, (F c a b).1.Wf) : (askC F cs n ag a b).1.Wf := by
  unfold askC
  repeat' split
  all_goals first | exact zeroR_wf | exact h _

end Go.SX
