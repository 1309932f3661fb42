/- Arguments that read as data: desks, actors, meetings, ratios, numbers. -/
import Derived.Test.YtojdihbanakhgaaAgZ
import Derived.Test.YtojdihbanakhgaaMeetA
namespace Go.SX
open Go.Proofs Go.Deep

section
variable {H : Type} {enc : TypeId × Value → H} {w : World} {spare : Nat → Bool} {held : Bool}

theorem take3 {cs : List Value} {n : Nat} {u v x : Value} (h : (cs.drop n).take 3 = [u, v, x]) : cs[n]? = some u ∧ cs[n + 1]? = some v ∧ cs[n + 2]? = some x := by
  have h0 := congrArg (fun l : List Value => l[0]?) h
  have h1 := congrArg (fun l : List Value => l[1]?) h
  have h2 := congrArg (fun l : List Value => l[2]?) h
  exact ⟨by simpa [List.getElem?_take, List.getElem?_drop] using h0, by simpa [List.getElem?_take, List.getElem?_drop] using h1, by simpa [List.getElem?_take, List.getElem?_drop] using h2⟩

theorem reads_actor : ReadsAs enc w spare held 97 ElA 8 := fun fuel cs x h => by
  obtain ⟨xs, n, _, _, hlen, hxl, hf⟩ := DataW.trod_struct Go.Proofs.Try.underlying97 h
  have c97 : Go.Proofs.Try.prog.cellsOf 97 = 8 := by kernel_rfl
  have c3 : Go.Proofs.Try.prog.cellsOf 3 = 1 := by kernel_rfl
  have c40 : Go.Proofs.Try.prog.cellsOf 40 = 3 := by kernel_rfl
  rw [c97] at hlen
  have hxl : xs.length = 4 := hxl
  have e0 : DataW.trod enc Go.Proofs.Try.prog w 0 spare held n 40 ((cs.drop 0).take (Go.Proofs.Try.prog.cellsOf 40)) = xs[0]? := hf 0 _ rfl
  have e1 : DataW.trod enc Go.Proofs.Try.prog w 0 spare held n 40 ((cs.drop 3).take (Go.Proofs.Try.prog.cellsOf 40)) = xs[1]? := hf 1 _ rfl
  have e2 : DataW.trod enc Go.Proofs.Try.prog w 0 spare held n 3 ((cs.drop 6).take (Go.Proofs.Try.prog.cellsOf 3)) = xs[2]? := hf 2 _ rfl
  have e3 : DataW.trod enc Go.Proofs.Try.prog w 0 spare held n 3 ((cs.drop 7).take (Go.Proofs.Try.prog.cellsOf 3)) = xs[3]? := hf 3 _ rfl
  rw [c40] at e0 e1
  rw [c3] at e2 e3
  rw [List.getElem?_eq_getElem (by omega)] at e0 e1 e2 e3
  obtain ⟨_, x0, p0, k0, r0⟩ := reads_cake n _ _ e0
  obtain ⟨_, x1, p1, k1, r1⟩ := reads_cake n _ _ e1
  obtain ⟨v2, k2, _, w2⟩ := DataW.trod_int Go.Proofs.Try.underlying3 e2
  obtain ⟨v3, k3, _, w3⟩ := DataW.trod_int Go.Proofs.Try.underlying3 e3
  have g0 := take3 k0
  have g1 := take3 k1
  have g2 := take1 k2
  have g3 := take1 k3
  refine ⟨hlen, ⟨x0, x1, v2, v3⟩, ⟨p0, p1, v2, v3⟩, ?_, r0, r1, rfl, rfl, wf_i64 w2, wf_i64 w3⟩
  exact eq8 hlen g0.1 g0.2.1 g0.2.2 g1.1 g1.2.1 g1.2.2 g2 g3

theorem reads_actors {v : Value} {d : DataW H} {ps : List MemPlace} (h : DataW.Trod enc Go.Proofs.Try.prog w 0 spare held 22 v d ps) : ∃ a n k, ∃ l : List ActV, v.cells.toList = [SV a n k] ∧ n ≤ maxLen ∧ RActs (snap w) a n k l := by
  obtain ⟨fuel, h⟩ := h
  exact reads_slice Go.Proofs.Try.underlying22 (by kernel_rfl) (by omega) reads_actor h

theorem reads_desk {v : Value} {d : DataW H} {ps : List MemPlace} (h : DataW.Trod enc Go.Proofs.Try.prog w 0 spare held 56 v d ps) :
    ∃ ca cn ck qa qn qk, ∃ (l : List CakeV) (q : List QV), v.cells.toList = [SV ca cn ck, SV qa qn qk] ∧ cn ≤ maxLen ∧ qn ≤ maxLen ∧ RC (snap w) ca cn ck l ∧ RQ (snap w) qa qn qk q := by
  obtain ⟨fuel, h⟩ := h
  obtain ⟨xs, n, _, _, hlen, hxl, hf⟩ := DataW.trod_struct Go.Proofs.Try.underlying56 h
  have c56 : Go.Proofs.Try.prog.cellsOf 56 = 2 := by kernel_rfl
  have c53 : Go.Proofs.Try.prog.cellsOf 53 = 1 := by kernel_rfl
  have c23 : Go.Proofs.Try.prog.cellsOf 23 = 1 := by kernel_rfl
  rw [c56] at hlen
  have hxl : xs.length = 2 := hxl
  have e0 : DataW.trod enc Go.Proofs.Try.prog w 0 spare held n 53 ((v.cells.toList.drop 0).take (Go.Proofs.Try.prog.cellsOf 53)) = xs[0]? := hf 0 _ rfl
  have e1 : DataW.trod enc Go.Proofs.Try.prog w 0 spare held n 23 ((v.cells.toList.drop 1).take (Go.Proofs.Try.prog.cellsOf 23)) = xs[1]? := hf 1 _ rfl
  rw [c53] at e0
  rw [c23] at e1
  rw [List.getElem?_eq_getElem (by omega)] at e0 e1
  obtain ⟨a1, n1, p1, l1, k1, m1, r1⟩ := reads_slice Go.Proofs.Try.underlying53 (by kernel_rfl) (by omega) reads_cake e0
  obtain ⟨a2, n2, p2, l2, k2, m2, r2⟩ := reads_slice Go.Proofs.Try.underlying23 (by kernel_rfl) (by omega) reads_query e1
  exact ⟨a1, n1, p1, a2, n2, p2, l1, l2, eq2 hlen (take1 k1) (take1 k2), m1, m2, r1, r2⟩

theorem reads_meeting {v : Value} {d : DataW H} {ps : List MemPlace} (h : DataW.Trod enc Go.Proofs.Try.prog w 0 spare held 25 v d ps) :
    ∃ ca cn ck qa qn qk, ∃ (l : List ActV) (q : List QV), v.cells.toList = [SV ca cn ck, SV qa qn qk] ∧ cn ≤ maxLen ∧ qn ≤ maxLen ∧ RActs (snap w) ca cn ck l ∧ RQ (snap w) qa qn qk q := by
  obtain ⟨fuel, h⟩ := h
  obtain ⟨xs, n, _, _, hlen, hxl, hf⟩ := DataW.trod_struct Go.Proofs.Try.underlying25 h
  have c25 : Go.Proofs.Try.prog.cellsOf 25 = 2 := by kernel_rfl
  have c22 : Go.Proofs.Try.prog.cellsOf 22 = 1 := by kernel_rfl
  have c23 : Go.Proofs.Try.prog.cellsOf 23 = 1 := by kernel_rfl
  rw [c25] at hlen
  have hxl : xs.length = 2 := hxl
  have e0 : DataW.trod enc Go.Proofs.Try.prog w 0 spare held n 22 ((v.cells.toList.drop 0).take (Go.Proofs.Try.prog.cellsOf 22)) = xs[0]? := hf 0 _ rfl
  have e1 : DataW.trod enc Go.Proofs.Try.prog w 0 spare held n 23 ((v.cells.toList.drop 1).take (Go.Proofs.Try.prog.cellsOf 23)) = xs[1]? := hf 1 _ rfl
  rw [c22] at e0
  rw [c23] at e1
  rw [List.getElem?_eq_getElem (by omega)] at e0 e1
  obtain ⟨a1, n1, p1, l1, k1, m1, r1⟩ := reads_slice Go.Proofs.Try.underlying22 (by kernel_rfl) (by omega) reads_actor e0
  obtain ⟨a2, n2, p2, l2, k2, m2, r2⟩ := reads_slice Go.Proofs.Try.underlying23 (by kernel_rfl) (by omega) reads_query e1
  exact ⟨a1, n1, p1, a2, n2, p2, l1, l2, eq2 hlen (take1 k1) (take1 k2), m1, m2, r1, r2⟩

theorem reads_rat {v : Value} {d : DataW H} {ps : List MemPlace} (h : DataW.Trod enc Go.Proofs.Try.prog w 0 spare held 43 v d ps) : ∃ r : R, v.cells.toList = [EV r.n, EV r.d] ∧ r.Wf := by
  obtain ⟨fuel, h⟩ := h
  exact reads_ratio h
theorem reads_num {v : Value} {d : DataW H} {ps : List MemPlace} (h : DataW.Trod enc Go.Proofs.Try.prog w 0 spare held 3 v d ps) : ∃ n : Int, v.cells.toList = [EV n] ∧ I64 n := by
  obtain ⟨fuel, h⟩ := h
  obtain ⟨n, k, _, hw⟩ := DataW.trod_int Go.Proofs.Try.underlying3 h
  exact ⟨n, k, wf_i64 hw⟩
theorem reads_u8 {v : Value} {d : DataW H} {ps : List MemPlace} (h : DataW.Trod enc Go.Proofs.Try.prog w 0 spare held 5 v d ps) : ∃ n : Int, v.cells.toList = [.int .u8 n] ∧ 0 ≤ n ∧ n < 256 := by
  obtain ⟨fuel, h⟩ := h
  obtain ⟨n, k, _, hw⟩ := DataW.trod_int Go.Proofs.Try.underlying5 h
  exact ⟨n, k, wf_u8 hw⟩

theorem agg_of {cs : Array Value} {l : List Value} (h : (Value.agg cs).cells.toList = l) : Value.agg cs = .agg l.toArray := by
  have : cs.toList = l := h
  rw [← this]
end
end Go.SX
