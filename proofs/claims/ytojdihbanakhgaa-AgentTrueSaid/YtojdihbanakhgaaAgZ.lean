/- Arguments that read as data lie in memory as lists, cakes, queries. -/
import Derived.Test.YtojdihbanakhgaaListA
import Derived.Test.YtojdihbanakhgaaAgK
import Derived.Deep.Slices
import Derived.ChangeArms
import Derived.WideKeyArgs
namespace Go.SX
open Go.Proofs Go.Deep

/-- All of a world's memory. -/
def snap (w : World) : Mem := fun b => w.heap[b]?.map Frag.obj

theorem snap_on (w : World) : (snap w).on w := fun b f h => by
  unfold snap at h
  cases hb : w.heap[b]? with
  | none => rw [hb] at h; cases h
  | some o => rw [hb] at h; cases h; rfl

theorem snap_cell {w : World} {a : Addr} {v : Value} (h : w.cell? a = some v) : a.spot = none ∧ (snap w).cell a.block a.off = some v := by
  unfold World.cell? at h
  unfold Mem.cell snap
  cases hb : w.heap[a.block]? with
  | none => rw [hb] at h; cases h
  | some o =>
    rw [hb] at h
    cases o with
    | cells c t f =>
      simp only at h
      cases hs : a.spot with
      | none => rw [hs] at h; exact ⟨rfl, by simpa using h⟩
      | some s => rw [hs] at h; simp at h
    | _ => cases h

theorem add_block (a : Addr) (n : Nat) : (a.add n).block = a.block := by unfold Addr.add; split <;> rfl
theorem add_off (a : Addr) (n : Nat) : (a.add n).off = a.off + n := by
  unfold Addr.add
  split
  · rename_i h; subst h; rfl
  · rfl

theorem mapM_at {α β : Type} {f : α → Option β} : ∀ {l : List α} {r : List β}, l.mapM f = some r → ∀ (j : Nat) (v : β), r[j]? = some v → ∃ x, l[j]? = some x ∧ f x = some v
  | [], r, h, j, v, hv => by simp at h; subst h; simp at hv
  | x :: l, r, h, j, v, hv => by
    rw [List.mapM_cons] at h
    simp only [bind, Option.bind_eq_some_iff, pure, Option.some.injEq] at h
    obtain ⟨y, hy, r', hr', rfl⟩ := h
    cases j with
    | zero => simp at hv; subst hv; exact ⟨x, rfl, hy⟩
    | succ j => simpa using mapM_at hr' j v (by simpa using hv)

theorem cells_at {w : World} {a : Addr} {n : Nat} {cs : List Value} (h : w.cells? 0 a n = some cs) : CellsAt (snap w) a.block a.off cs ∧ (cs ≠ [] → a.spot = none) := by
  unfold World.cells? at h
  rw [if_pos (Nat.zero_le _)] at h
  have key : ∀ j v, cs[j]? = some v → w.cell? (a.add j) = some v := fun j v hv => by
    obtain ⟨x, h1, h2⟩ := mapM_at h j v hv
    rw [List.getElem?_range] at h1
    · cases h1; exact h2
    · rcases Nat.lt_or_ge j n with hlt | hge
      · exact hlt
      · rw [List.getElem?_eq_none (by simpa using hge)] at h1; cases h1
  refine ⟨CellsAt.of_get fun j v hv => ?_, fun hne => ?_⟩
  · have := (snap_cell (key j v hv)).2
    rwa [add_block, add_off] at this
  · cases cs with
    | nil => exact absurd rfl hne
    | cons v cs =>
      have := (snap_cell (key 0 v rfl)).1
      simpa [Addr.add] using this

section
variable {H : Type} {enc : TypeId × Value → H} {w : World} {spare : Nat → Bool} {held : Bool} {α : Type}

/-- Whatever reads as data of type e lies in memory as an element. -/
def ReadsAs (enc : TypeId × Value → H) (w : World) (spare : Nat → Bool) (held : Bool) (e : TypeId) (R : ElR α) (sz : Nat) : Prop :=
  ∀ fuel cs x, DataW.trod enc Go.Proofs.Try.prog w 0 spare held fuel e cs = some x → cs.length = sz ∧ ∃ y : α, R (snap w) cs y

theorem reads_slice {t e : TypeId} {R : ElR α} {sz : Nat} (ht : Go.Proofs.Try.prog.underlying t = some (.slice e)) (hsz : Go.Proofs.Try.prog.cellsOf e = sz) (h0 : 0 < sz) (hR : ReadsAs enc w spare held e R sz) {fuel : Nat} {cs : List Value} {x : DataW H × List MemPlace}
    (h : DataW.trod enc Go.Proofs.Try.prog w 0 spare held fuel t cs = some x) : ∃ a n k, ∃ l : List α, cs = [SV a n k] ∧ n ≤ maxLen ∧ RdL R sz (snap w) a n k l := by
  rcases open_slice ht h with ⟨rfl, _⟩ | ⟨a, len, cap, m, n, D, Pl, rfl, _, hl, hm, hmm, _, hel⟩
  · exact ⟨none, 0, 0, [], rfl, by simp, RdL.nil' ..⟩
  · have hlm : len ≤ m := by rw [hmm]; split <;> omega
    rw [hsz] at hel
    have key : ∀ i, i ≤ len → ∃ (cs : List (List Value)) (l : List α), All2 (fun c x => c.length = sz ∧ R (snap w) c x) cs l ∧ l.length = i ∧ cs.flatten.length = i * sz ∧ CellsAt (snap w) a.block a.off cs.flatten ∧ (0 < i → a.spot = none) := by
      intro i
      induction i with
      | zero => intro _; exact ⟨[], [], trivial, rfl, by simp, trivial, fun h => by omega⟩
      | succ i ih =>
        intro hi
        obtain ⟨cs, l, h1, h2, h3, h4, h5⟩ := ih (by omega)
        obtain ⟨c, hc, ht⟩ := hel i (by omega)
        obtain ⟨hlen, y, hy⟩ := hR _ _ _ ht
        obtain ⟨k1, k2⟩ := cells_at hc
        rw [add_block, add_off] at k1
        refine ⟨cs ++ [c], l ++ [y], h1.append (All2.one ⟨hlen, hy⟩), by simp [h2], ?_, ?_, fun _ => ?_⟩
        · simp only [List.flatten_append, List.length_append, h3, List.flatten_cons, List.flatten_nil, List.append_nil, hlen, Nat.add_mul, Nat.one_mul]
        · rw [List.flatten_append, CellsAt.append, h3]
          exact ⟨h4, by simpa using k1⟩
        · rcases Nat.eq_zero_or_pos i with e | e
          · subst e
            have hne : c ≠ [] := fun e => by rw [e] at hlen; simp at hlen; omega
            have := k2 hne
            simpa [Addr.add] using this
          · exact h5 e
    obtain ⟨cs, l, h1, h2, h3, h4, h5⟩ := key len (Nat.le_refl _)
    refine ⟨some a, len, cap, l, rfl, Nat.le_trans hl hm, h2.symm, by omega, (fun h => by cases h), cs, h1, fun hne => ⟨a.block, a.off, ?_, h4⟩⟩
    have : 0 < len := by
      rcases Nat.eq_zero_or_pos len with e | e
      · rw [e] at h2; exact absurd (List.eq_nil_of_length_eq_zero h2) hne
      · exact e
    have hs := h5 this
    cases a
    simp only at hs
    subst hs
    rfl

theorem wf_i64 {n : Int} (h : (Lit.int .i64 n).wf = true) : I64 n := by
  simp only [Lit.wf, Bool.and_eq_true, decide_eq_true_eq] at h
  have e1 : IntKind.i64.min = -9223372036854775808 := by decide
  have e2 : IntKind.i64.max = 9223372036854775807 := by decide
  rw [e1, e2] at h
  exact ⟨h.1, by omega⟩
theorem wf_u8 {n : Int} (h : (Lit.int .u8 n).wf = true) : 0 ≤ n ∧ n < 256 := by
  simp only [Lit.wf, Bool.and_eq_true, decide_eq_true_eq] at h
  have e1 : IntKind.u8.min = 0 := by decide
  have e2 : IntKind.u8.max = 255 := by decide
  rw [e1, e2] at h
  omega

theorem reads_i64 {e : TypeId} (he : Go.Proofs.Try.prog.underlying e = some (.int .i64)) : ReadsAs enc w spare held e (ElI .i64 I64) 1 := fun fuel cs x h => by
  obtain ⟨n, rfl, _, hw⟩ := DataW.trod_int he h
  exact ⟨rfl, n, rfl, wf_i64 hw⟩

theorem take1 {cs : List Value} {n : Nat} {v : Value} (h : (cs.drop n).take 1 = [v]) : cs[n]? = some v := by
  have := congrArg (fun l : List Value => l[0]?) h
  simpa [List.getElem?_take, List.getElem?_drop] using this

theorem eq2 {cs : List Value} {x0 x1 : Value} (hl : cs.length = 2) (h0 : cs[0]? = some x0) (h1 : cs[1]? = some x1) : cs = [x0, x1] := by
  refine List.ext_getElem? fun i => ?_
  rcases Nat.lt_or_ge i 1 with h | h
  · have : i = 0 := by omega
    subst this
    exact h0
  rcases Nat.lt_or_ge i 2 with h' | h'
  · have : i = 1 := by omega
    subst this
    exact h1
  rw [List.getElem?_eq_none (by omega), List.getElem?_eq_none (by simp; omega)]

theorem eq3 {cs : List Value} {x0 x1 x2 : Value} (hl : cs.length = 3) (h0 : cs[0]? = some x0) (h1 : cs[1]? = some x1) (h2 : cs[2]? = some x2) : cs = [x0, x1, x2] := by
  refine List.ext_getElem? fun i => ?_
  rcases Nat.lt_or_ge i 1 with h | h
  · have : i = 0 := by omega
    subst this
    exact h0
  rcases Nat.lt_or_ge i 2 with h' | h'
  · have : i = 1 := by omega
    subst this
    exact h1
  rcases Nat.lt_or_ge i 3 with h' | h'
  · have : i = 2 := by omega
    subst this
    exact h2
  rw [List.getElem?_eq_none (by omega), List.getElem?_eq_none (by simp; omega)]

theorem eq8 {cs : List Value} {x0 x1 x2 x3 x4 x5 x6 x7 : Value} (hl : cs.length = 8) (h0 : cs[0]? = some x0) (h1 : cs[1]? = some x1) (h2 : cs[2]? = some x2) (h3 : cs[3]? = some x3) (h4 : cs[4]? = some x4) (h5 : cs[5]? = some x5) (h6 : cs[6]? = some x6) (h7 : cs[7]? = some x7) : cs = [x0, x1, x2, x3, x4, x5, x6, x7] := by
  refine List.ext_getElem? fun i => ?_
  rcases Nat.lt_or_ge i 1 with h | h
  · have : i = 0 := by omega
    subst this
    exact h0
  rcases Nat.lt_or_ge i 2 with h' | h'
  · have : i = 1 := by omega
    subst this
    exact h1
  rcases Nat.lt_or_ge i 3 with h' | h'
  · have : i = 2 := by omega
    subst this
    exact h2
  rcases Nat.lt_or_ge i 4 with h' | h'
  · have : i = 3 := by omega
    subst this
    exact h3
  rcases Nat.lt_or_ge i 5 with h' | h'
  · have : i = 4 := by omega
    subst this
    exact h4
  rcases Nat.lt_or_ge i 6 with h' | h'
  · have : i = 5 := by omega
    subst this
    exact h5
  rcases Nat.lt_or_ge i 7 with h' | h'
  · have : i = 6 := by omega
    subst this
    exact h6
  rcases Nat.lt_or_ge i 8 with h' | h'
  · have : i = 7 := by omega
    subst this
    exact h7
  rw [List.getElem?_eq_none (by omega), List.getElem?_eq_none (by simp; omega)]

theorem reads_cake : ReadsAs enc w spare held 40 ElC 3 := fun fuel cs x h => by
  obtain ⟨xs, n, _, _, hlen, hxl, hf⟩ := DataW.trod_struct Go.Proofs.Try.underlying40 h
  have c40 : Go.Proofs.Try.prog.cellsOf 40 = 3 := by kernel_rfl
  have c3 : Go.Proofs.Try.prog.cellsOf 3 = 1 := by kernel_rfl
  have c38 : Go.Proofs.Try.prog.cellsOf 38 = 1 := by kernel_rfl
  rw [c40] at hlen
  have hxl : xs.length = 3 := hxl
  have e0 : DataW.trod enc Go.Proofs.Try.prog w 0 spare held n 3 ((cs.drop 0).take (Go.Proofs.Try.prog.cellsOf 3)) = xs[0]? := hf 0 _ rfl
  have e1 : DataW.trod enc Go.Proofs.Try.prog w 0 spare held n 38 ((cs.drop 1).take (Go.Proofs.Try.prog.cellsOf 38)) = xs[1]? := hf 1 _ rfl
  have e2 : DataW.trod enc Go.Proofs.Try.prog w 0 spare held n 38 ((cs.drop 2).take (Go.Proofs.Try.prog.cellsOf 38)) = xs[2]? := hf 2 _ rfl
  rw [c3] at e0
  rw [c38] at e1 e2
  rw [List.getElem?_eq_getElem (by omega)] at e0 e1 e2
  obtain ⟨v0, k0, _, w0⟩ := DataW.trod_int Go.Proofs.Try.underlying3 e0
  obtain ⟨a1, n1, p1, l1, k1, _, r1⟩ := reads_slice Go.Proofs.Try.underlying38 c3 (by omega) (reads_i64 Go.Proofs.Try.underlying3) e1
  obtain ⟨a2, n2, p2, l2, k2, _, r2⟩ := reads_slice Go.Proofs.Try.underlying38 c3 (by omega) (reads_i64 Go.Proofs.Try.underlying3) e2
  have g0 := take1 k0
  have g1 := take1 k1
  have g2 := take1 k2
  refine ⟨hlen, ⟨v0, l1, l2⟩, ⟨v0, a1, n1, p1, a2, n2, p2⟩, ?_, rfl, wf_i64 w0, r1, r2⟩
  exact eq3 hlen g0 g1 g2

theorem reads_ratio {n : Nat} {cs : List Value} {x : DataW H × List MemPlace} (h : DataW.trod enc Go.Proofs.Try.prog w 0 spare held n 43 cs = some x) : ∃ r : R, cs = [EV r.n, EV r.d] ∧ r.Wf := by
  obtain ⟨xs, n, _, _, hlen, hxl, hf⟩ := DataW.trod_struct Go.Proofs.Try.underlying43 h
  have c43 : Go.Proofs.Try.prog.cellsOf 43 = 2 := by kernel_rfl
  have c2 : Go.Proofs.Try.prog.cellsOf 2 = 1 := by kernel_rfl
  rw [c43] at hlen
  have hxl : xs.length = 2 := hxl
  have e0 : DataW.trod enc Go.Proofs.Try.prog w 0 spare held n 2 ((cs.drop 0).take (Go.Proofs.Try.prog.cellsOf 2)) = xs[0]? := hf 0 _ rfl
  have e1 : DataW.trod enc Go.Proofs.Try.prog w 0 spare held n 2 ((cs.drop 1).take (Go.Proofs.Try.prog.cellsOf 2)) = xs[1]? := hf 1 _ rfl
  rw [c2] at e0 e1
  rw [List.getElem?_eq_getElem (by omega)] at e0 e1
  obtain ⟨v0, k0, _, w0⟩ := DataW.trod_int Go.Proofs.Try.underlying2 e0
  obtain ⟨v1, k1, _, w1⟩ := DataW.trod_int Go.Proofs.Try.underlying2 e1
  have g0 := take1 k0
  have g1 := take1 k1
  refine ⟨⟨v0, v1⟩, ?_, wf_i64 w0, wf_i64 w1⟩
  exact eq2 hlen g0 g1

theorem take2 {cs : List Value} {n : Nat} {u v : Value} (h : (cs.drop n).take 2 = [u, v]) : cs[n]? = some u ∧ cs[n + 1]? = some v := by
  have h0 := congrArg (fun l : List Value => l[0]?) h
  have h1 := congrArg (fun l : List Value => l[1]?) h
  exact ⟨by simpa [List.getElem?_take, List.getElem?_drop] using h0, by simpa [List.getElem?_take, List.getElem?_drop] using h1⟩

theorem reads_query : ReadsAs enc w spare held 64 ElQ 8 := fun fuel cs x h => by
  obtain ⟨xs, n, _, _, hlen, hxl, hf⟩ := DataW.trod_struct Go.Proofs.Try.underlying64 h
  have c64 : Go.Proofs.Try.prog.cellsOf 64 = 8 := by kernel_rfl
  have c3 : Go.Proofs.Try.prog.cellsOf 3 = 1 := by kernel_rfl
  have c5 : Go.Proofs.Try.prog.cellsOf 5 = 1 := by kernel_rfl
  have c43 : Go.Proofs.Try.prog.cellsOf 43 = 2 := by kernel_rfl
  rw [c64] at hlen
  have hxl : xs.length = 5 := hxl
  have e0 : DataW.trod enc Go.Proofs.Try.prog w 0 spare held n 3 ((cs.drop 0).take (Go.Proofs.Try.prog.cellsOf 3)) = xs[0]? := hf 0 _ rfl
  have e1 : DataW.trod enc Go.Proofs.Try.prog w 0 spare held n 5 ((cs.drop 1).take (Go.Proofs.Try.prog.cellsOf 5)) = xs[1]? := hf 1 _ rfl
  have e2 : DataW.trod enc Go.Proofs.Try.prog w 0 spare held n 43 ((cs.drop 2).take (Go.Proofs.Try.prog.cellsOf 43)) = xs[2]? := hf 2 _ rfl
  have e3 : DataW.trod enc Go.Proofs.Try.prog w 0 spare held n 43 ((cs.drop 4).take (Go.Proofs.Try.prog.cellsOf 43)) = xs[3]? := hf 3 _ rfl
  have e4 : DataW.trod enc Go.Proofs.Try.prog w 0 spare held n 43 ((cs.drop 6).take (Go.Proofs.Try.prog.cellsOf 43)) = xs[4]? := hf 4 _ rfl
  rw [c3] at e0
  rw [c5] at e1
  rw [c43] at e2 e3 e4
  rw [List.getElem?_eq_getElem (by omega)] at e0 e1 e2 e3 e4
  obtain ⟨v0, k0, _, w0⟩ := DataW.trod_int Go.Proofs.Try.underlying3 e0
  obtain ⟨v1, k1, _, w1⟩ := DataW.trod_int Go.Proofs.Try.underlying5 e1
  obtain ⟨r2, k2, w2⟩ := reads_ratio e2
  obtain ⟨r3, k3, w3⟩ := reads_ratio e3
  obtain ⟨r4, k4, w4⟩ := reads_ratio e4
  have g0 := take1 k0
  have g1 := take1 k1
  have g2 := take2 k2
  have g3 := take2 k3
  have g4 := take2 k4
  refine ⟨hlen, ⟨v0, v1, r2, r3, r4⟩, ?_, wf_i64 w0, wf_u8 w1, w2, w3, w4⟩
  exact eq8 hlen g0 g1 g2.1 g2.2 g3.1 g3.2 g4.1 g4.2

theorem reads_cakes {v : Value} {d : DataW H} {ps : List MemPlace} (h : DataW.Trod enc Go.Proofs.Try.prog w 0 spare held 53 v d ps) : ∃ a n k, ∃ l : List CakeV, v.cells.toList = [SV a n k] ∧ n ≤ maxLen ∧ RC (snap w) a n k l := by
  obtain ⟨fuel, h⟩ := h
  exact reads_slice Go.Proofs.Try.underlying53 (by kernel_rfl) (by omega) reads_cake h
theorem reads_queries {v : Value} {d : DataW H} {ps : List MemPlace} (h : DataW.Trod enc Go.Proofs.Try.prog w 0 spare held 23 v d ps) : ∃ a n k, ∃ l : List QV, v.cells.toList = [SV a n k] ∧ n ≤ maxLen ∧ RQ (snap w) a n k l := by
  obtain ⟨fuel, h⟩ := h
  exact reads_slice Go.Proofs.Try.underlying23 (by kernel_rfl) (by omega) reads_query h
end
end Go.SX
