/- Memory that a call makes and reads: append, stores, local variables that are handed on; how data lie in memory. -/
import Derived.Test.YtojdihbanakhgaaSxM
import Derived.Laws.OwnMore
namespace Go.SX

/-! ### Rows of one's own -/

section
variable {c : Ct} {M : Mem}

/-- A slice over a row that the call made: the row's first cells are those of the slice. -/
structure Own (c : Ct) (M : Mem) (e sz : Nat) (a : Option Addr) (n cap : Nat) (xs : List Value) : Prop where
  len : xs.length = n * sz
  row : (a = none ∧ n = 0 ∧ cap = 0) ∨ ∃ g, a = some ⟨g, 0, none⟩ ∧ (c.B0 ≤ g ∨ c.lent g = true) ∧ M g = some (.row e (cap * sz) xs) ∧ n ≤ cap ∧ cap ≤ maxLen

theorem Own.nil (c : Ct) (M : Mem) (e sz : Nat) : Own c M e sz none 0 0 [] := ⟨by simp, .inl ⟨rfl, rfl, rfl⟩⟩

/-- What a new end of an own row leaves as it was. -/
structure Grows (c : Ct) (a a' : Option Addr) (M M' : Mem) : Prop where
  le : M.le M'
  keep : ∀ b, M b ≠ none → (∀ g, a = some ⟨g, 0, none⟩ → b ≠ g) → M' b = M b
  new : ∀ b, M' b ≠ none → M b ≠ none ∨ c.B0 ≤ b
  at_ : a' = a ∨ ∃ g, a' = some ⟨g, 0, none⟩ ∧ M g = none ∧ c.B0 ≤ g

theorem on_row {M : Mem} {w : World} (hm : M.on w) {g T N : Nat} {xs : List Value} (h : M g = some (.row T N xs)) : ∃ r, w.heap[g]? = some (.cells (xs ++ r).toArray T (0, 0)) ∧ (xs ++ r).length = N := hm g _ h

theorem CellsAt.on {M : Mem} {w : World} (hm : M.on w) : ∀ {l : List Value} {b o : Nat}, CellsAt M b o l → ∀ j v, l[j]? = some v → w.cell? ((⟨b, o, none⟩ : Addr).add j) = some v := fun {l b o} h j v hj => by
  rw [addr_add]; exact Mem.cell_on hm (h.get hj)

theorem bApp {t : Nat} {v1 v2 v : Value} {w w' : World} (h : (Builtin.append_ #[t, t] 0 #[v1, v2]).run PR w = .ok v w') : (builtin .append [t, t].toArray 0 #[] #[v1, v2]).run PR w = .ok (.value v) w' := by
  simp [builtin, h]

theorem AppS.own {up : Bool} {t e : Nat} {ti ei : TI} (ht : TB.ty t = some ti) (hk : ti.k = .slice e) (he : TB.ty e = some ei) (_hsz : 0 < ei.size) (hzl : ei.zero.length = ei.size)
    {x y : AV} {p : Mem → AV → Prop} {a : Option Addr} {n cap : Nat} {xs : List Value} (hx : x.val = .slice a n cap) (hown : Own c M e ei.size a n cap xs)
    {b o m k : Nat} {news : List Value} (hy : y.val = .slice (some ⟨b, o, none⟩) m k) (hnews : CellsAt M b o news) (hl : news.length = m * ei.size) (h1 : ∀ u ∈ news, u.oneCell' = true)
    (h63 : n + m ≤ maxLen) (hby : (n + m) * ei.bytes ≤ 140737488355328)
    (hp : ∀ M' a' cap', Own c M' e ei.size a' (n + m) cap' (xs ++ news) → Grows c a a' M M' → p M' (.slice (fun _ => a') (fun _ => n + m) (fun _ => cap'))) : AppS c up [t, t] [x, y] M p := by
  have hty := tb_ok.ty t ti ht
  have hey := tb_ok.ty e ei he
  obtain ⟨d, hd, hdk⟩ := hty.und'
  rw [hk] at hdk
  have hd := hd.trans (tk_slice hdk)
  obtain ⟨i, z, hi, hisz, hiby, hiz, hzc⟩ := hey.info'
  have hzs : z.cells.size = ei.size := by rw [← Array.length_toList, hzc, denL_length, hzl]
  refine ⟨fun w hm hB => ?_⟩
  have hvals : AV.vals [x, y] = #[.slice a n cap, .slice (some ⟨b, o, none⟩) m k] := by rw [← hx, ← hy]; rfl
  have hsmall : n + m ≤ 9223372036854775807 := by simp only [maxLen] at h63; omega
  have hncells := CellsAt.on hm hnews
  have hlen : (xs ++ news).length = (n + m) * ei.size := by rw [List.length_append, hown.len, hl, Nat.add_mul]
  have grown : ∀ (old : Nat) (oldl : List Value), oldl = xs → old < n + m →
      (∀ res, (Builtin.append_ #[t, t] 0 #[.slice a n cap, .slice (some ⟨b, o, none⟩) m k]).run PR w = res →
        res = .ok (.slice (some ⟨w.heap.size, 0, none⟩) (n + m) (grownCap w (n + m) old e)) (w.drew.alloc (.cells (oldl.toArray ++ news.toArray ++ Builtin.zeroCells z.cells (grownCap w (n + m) old e - (n + m))) e)) →
        ResV PR (fun v w' => ∃ M' r, v = r.val ∧ r.ground = true ∧ Grow c up M w M' w' ∧ p M' r) ((builtin .append [t, t].toArray 0 #[] (AV.vals [x, y])).run PR w)) := by
    intro old oldl ho hlt res hr hres
    subst ho
    rw [hres] at hr
    rw [hvals, bApp hr]
    have hge := grownCap_ge w (n + m) old e
    have hcm := grownCap_le_maxLen w (n + m) old e h63
    have hfr : M w.heap.size = none := by
      cases hmm : M w.heap.size with
      | none => rfl
      | some f => exact absurd (mem_lt hm (b := w.heap.size) (by rw [hmm]; simp)) (Nat.lt_irrefl _)
    have hon : Frag.on (.row e (grownCap w (n + m) old e * ei.size) (oldl ++ news)) (some (.cells (oldl.toArray ++ news.toArray ++ Builtin.zeroCells z.cells (grownCap w (n + m) old e - (n + m))) e)) := by
      refine ⟨(Builtin.zeroCells z.cells (grownCap w (n + m) old e - (n + m))).toList, ?_, ?_⟩
      · congr 2
        apply Array.ext'
        simp
      · rw [List.length_append, hlen, Array.length_toList, size_zeroCells, hzs, ← Nat.add_mul]
        congr 1
        omega
    have hgr : Grow c up M w (M.set w.heap.size (.row e (grownCap w (n + m) old e * ei.size) (oldl ++ news))) (w.drew.alloc (.cells (oldl.toArray ++ news.toArray ++ Builtin.zeroCells z.cells (grownCap w (n + m) old e - (n + m))) e)) := by
      refine ⟨fun _ => Mem.le_set hfr, Mem.on_set (Mem.on_alloc (w := w.drew) (fun b f hb => hm b f hb) _) (by rw [show w.heap.size = w.drew.heap.size from rfl, heap_alloc_self]; exact hon), rfl, rfl, rfl, fun a => (froz_alloc w.drew (frozAt_row hon) a).trans rfl, by simp, fun b hb _ => heap_alloc_lt w.drew _ hb, fun b hb => ?_⟩
      unfold Mem.set at hb
      by_cases e' : b = w.heap.size
      · exact .inr (by omega)
      · rw [if_neg e'] at hb; exact .inl hb
    refine ⟨_, .slice (fun _ => some ⟨w.heap.size, 0, none⟩) (fun _ => n + m) (fun _ => grownCap w (n + m) old e), rfl, rfl, hgr, hp _ _ _ ⟨hlen, .inr ⟨w.heap.size, rfl, .inl hB, by simp [Mem.set], hge, hcm⟩⟩ ⟨Mem.le_set hfr, fun b hb _ => ?_, fun b hb => ?_, .inr ⟨_, rfl, hfr, hB⟩⟩⟩
    · have : b ≠ w.heap.size := fun e' => by subst e'; exact hb hfr
      simp [Mem.set, this]
    · rcases hgr.fresh b hb with h' | h'
      · exact .inl h'
      · exact .inr (Nat.le_trans hB h')
  rcases hown.row with ⟨rfl, rfl, rfl⟩ | ⟨g, rfl, hgB, hgM, hnc, hcm⟩
  · have hxs : xs = [] := List.eq_nil_of_length_eq_zero (by simpa using hown.len)
    by_cases hm0 : m = 0
    · subst hm0
      have hn : news = [] := List.eq_nil_of_length_eq_zero (by simpa using hl)
      have hr : (Builtin.append_ #[t, t] 0 #[.slice none 0 0, .slice (some ⟨b, o, none⟩) 0 k]).run PR w = .ok (.slice none 0 0) w := by
        simp [Builtin.append_, run_underlying hd, sizeOf, typeInfo, hi, Builtin.lenOf, Builtin.firstCells, loadCells, loadCellsFrom]
      rw [hvals]; dsimp only; rw [bApp hr]
      refine ⟨M, .slice (fun _ => none) (fun _ => 0) (fun _ => 0), rfl, rfl, ⟨fun _ => Mem.le_refl _, hm, rfl, rfl, rfl, fun _ => rfl, Nat.le_refl _, fun _ _ _ => rfl, fun b hb => .inl hb⟩, ?_⟩
      subst hxs; subst hn
      exact hp M none 0 (Own.nil ..) ⟨Mem.le_refl _, fun _ _ _ => rfl, fun b hb => .inl hb, .inl rfl⟩
    · refine grown 0 [] hxs.symm (by omega) _ rfl ?_
      have hr := run_append_nil (P := PR) w t 0 e i z hd hi hiz ⟨b, o, none⟩ m k news (by rw [hisz]; exact hl) hncells (by omega) (by omega) (by rw [hiby]; have := hby; simp only [Nat.zero_add] at this; omega)
      simpa using hr
  · obtain ⟨rr, hw, hwl⟩ := on_row hm hgM
    by_cases hroom : n + m ≤ cap
    · have hfit : n * i.size + news.length ≤ (xs ++ rr).toArray.size := by rw [List.size_toArray, hwl, hl, hisz, ← Nat.add_mul]; exact Nat.mul_le_mul_right _ hroom
      have hr := run_append_room (P := PR) w t 0 e i hd hi g n cap _ hw ⟨b, o, none⟩ m k news (by rw [hisz]; exact hl) hncells h1 hroom hfit
      rw [hvals]; dsimp only; rw [bApp hr]
      have htake : (xs ++ rr).take (n * i.size) = xs := by rw [hisz, ← hown.len]; exact List.take_left
      have hdrop : (xs ++ rr).drop (n * i.size + news.length) = rr.drop news.length := by rw [hisz, ← hown.len, ← List.drop_drop, List.drop_left]
      have hon : Frag.on (.row e (cap * ei.size) (xs ++ news)) ((w.setRow g ((xs ++ rr).toArray.toList.take (n * i.size) ++ news ++ (xs ++ rr).toArray.toList.drop (n * i.size + news.length)).toArray).heap[g]?) := by
        refine ⟨rr.drop news.length, ?_, ?_⟩
        · rw [setRow_heap w g _ _ e _ hw, htake, hdrop]
        · rw [List.length_append, List.length_append, List.length_drop]
          rw [List.length_append] at hwl
          rw [List.size_toArray, List.length_append, hisz, ← hown.len] at hfit
          omega
      have hgr : M.le (M.set g (.row e (cap * ei.size) (xs ++ news))) := fun b' f hb' => by
        by_cases e' : b' = g
        · subst e'; rw [hgM] at hb'; cases hb'; exact ⟨.row e (cap * ei.size) (xs ++ news), by simp [Mem.set], rfl, rfl, news, rfl⟩
        · exact ⟨f, by simp [Mem.set, e', hb'], f.le_refl⟩
      refine ⟨M.set g (.row e (cap * ei.size) (xs ++ news)), .slice (fun _ => some ⟨g, 0, none⟩) (fun _ => n + m) (fun _ => cap), rfl, rfl, ⟨fun _ => hgr, fun b' f hb' => ?_, rfl, rfl, rfl, fun a => froz_of (b := g) (fun k hk => setRow_other w g k _ hk) (frozAt_row hon) (fun off => by rw [hw]; exact frozAt_z off) a, by simp, fun b' hb' ho => ?_, fun b' hb' => ?_⟩, hp _ _ _ ⟨hlen, .inr ⟨g, rfl, hgB, by simp [Mem.set], hroom, hcm⟩⟩ ⟨hgr, fun b' hb' hne => ?_, fun b' hb' => ?_, .inl rfl⟩⟩
      · unfold Mem.set at hb'
        by_cases e' : b' = g
        · subst e'; simp at hb'; subst hb'; exact hon
        · rw [if_neg e'] at hb'; rw [setRow_other w g b' _ e']; exact hm b' f hb'
      · refine setRow_other w g b' _ fun e' => ?_
        subst e'
        rcases ho with ho | ho
        · rw [hgM] at ho; cases ho
        · obtain ⟨o1, o2⟩ := ho
          rcases hgB with hgB | hgB
          · omega
          · rw [hgB] at o2; cases o2
      · unfold Mem.set at hb'
        by_cases e' : b' = g
        · subst e'; left; rw [hgM]; simp
        · rw [if_neg e'] at hb'; exact .inl hb'
      · have := hne g rfl
        simp [Mem.set, this]
      · unfold Mem.set at hb'
        by_cases e' : b' = g
        · subst e'; left; rw [hgM]; simp
        · rw [if_neg e'] at hb'; exact .inl hb'
    · refine grown cap xs rfl (by omega) _ rfl ?_
      have holds : ∀ j u, xs[j]? = some u → w.cell? ((⟨g, 0, none⟩ : Addr).add j) = some u := fun j u hj => by
        rw [addr_add, cell_of_row w g (0 + j) _ e (0, 0) hw]
        have hlt := (List.getElem?_eq_some_iff.1 hj).1
        simp [List.getElem?_append_left hlt, hj]
      exact run_append_grow (P := PR) w t 0 e i z hd hi hiz ⟨g, 0, none⟩ n cap xs (by rw [hisz]; exact hown.len) holds ⟨b, o, none⟩ m k news (by rw [hisz]; exact hl) hncells (by omega) (by omega) (growslice_fits (by omega) (by rw [hiby]; exact hby))

/-- append of nothing. -/
theorem AppS.none {up : Bool} {t e : Nat} {ti ei : TI} (ht : TB.ty t = some ti) (hk : ti.k = .slice e) (he : TB.ty e = some ei)
    {x y : AV} {p : Mem → AV → Prop} {a : Option Addr} {n cap : Nat} {xs : List Value} (hx : x.val = .slice a n cap) (hown : Own c M e ei.size a n cap xs) {ya : Option Addr} {yc : Nat} (hy : y.val = .slice ya 0 yc) (hyc : ya = Option.none → yc = 0)
    (hp : p M (.slice (fun _ => a) (fun _ => n) (fun _ => cap))) : AppS c up [t, t] [x, y] M p := by
  have hty := tb_ok.ty t ti ht
  have hey := tb_ok.ty e ei he
  obtain ⟨d, hd, hdk⟩ := hty.und'
  rw [hk] at hdk
  have hd := hd.trans (tk_slice hdk)
  obtain ⟨i, z, hi, hisz, hiby, hiz, hzc⟩ := hey.info'
  refine ⟨fun w hm hB => ?_⟩
  have hvals : AV.vals [x, y] = #[.slice a n cap, .slice ya 0 yc] := by rw [← hx, ← hy]; rfl
  have hr : (Builtin.append_ #[t, t] 0 #[.slice a n cap, .slice ya 0 yc]).run PR w = .ok (.slice a n cap) w := by
    cases ya with
    | none =>
      rw [hyc rfl]
      rcases hown.row with ⟨rfl, rfl, rfl⟩ | ⟨g, rfl, hgB, hgM, hnc, hcm⟩
      · simp [Builtin.append_, run_underlying hd, sizeOf, typeInfo, hi, Builtin.lenOf, Builtin.firstCells]
      · simp [Builtin.append_, run_underlying hd, sizeOf, typeInfo, hi, Builtin.lenOf, Builtin.firstCells, hnc, storeCells]
    | some ya =>
      rcases hown.row with ⟨rfl, rfl, rfl⟩ | ⟨g, rfl, hgB, hgM, hnc, hcm⟩
      · simp [Builtin.append_, run_underlying hd, sizeOf, typeInfo, hi, Builtin.lenOf, Builtin.firstCells, loadCells, loadCellsFrom]
      · simp [Builtin.append_, run_underlying hd, sizeOf, typeInfo, hi, Builtin.lenOf, Builtin.firstCells, hnc, storeCells, loadCells, loadCellsFrom]
  rw [hvals]; dsimp only; rw [bApp hr]
  exact ⟨M, .slice (fun _ => a) (fun _ => n) (fun _ => cap), rfl, rfl, ⟨fun _ => Mem.le_refl _, hm, rfl, rfl, rfl, fun _ => rfl, Nat.le_refl _, fun _ _ _ => rfl, fun b hb => .inl hb⟩, hp⟩

end
end Go.SX
