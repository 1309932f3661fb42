/- Law 4: AskNames. -/
import Derived.Test.YtojdihbanakhgaaAgQ
namespace Go.SX
open Go.Proofs.Try Go.Proofs

theorem flat_get (z : List Value) (hz : 0 < z.length) : ∀ (n j : Nat) (v : Value), ((List.replicate n z).flatten)[j]? = some v → j < n * z.length ∧ z[j % z.length]? = some v
  | 0, j, v, h => by simp at h
  | n + 1, j, v, h => by
    rw [List.replicate_succ, List.flatten_cons] at h
    by_cases hj : j < z.length
    · rw [List.getElem?_append_left hj] at h
      rw [Nat.mod_eq_of_lt hj, Nat.add_mul]
      exact ⟨by omega, h⟩
    · rw [List.getElem?_append_right (by omega)] at h
      obtain ⟨h1, h2⟩ := flat_get z hz n _ v h
      rw [Nat.mod_eq_sub_mod (by omega), Nat.add_mul]
      exact ⟨by omega, h2⟩

theorem all2_rep {α : Type} {R : ElR α} {M : Mem} {z : List Value} {x : α} (h : R M z x) : ∀ n, All2 (fun c x => c.length = z.length ∧ R M c x) (List.replicate n z) (List.replicate n x)
  | 0 => trivial
  | n + 1 => ⟨⟨rfl, h⟩, all2_rep h n⟩

theorem RdL.made {α : Type} {R : ElR α} {M : Mem} {z : List Value} {x : α} {b T N n k : Nat} (hz : 0 < z.length) (hM : M b = some (.row T N (madeCells z.toArray (n * z.length)).toList)) (hR : R M z x) (hk : n ≤ k) :
    RdL R z.length M (some ⟨b, 0, none⟩) n k (List.replicate n x) :=
  ⟨by simp, by simpa using hk, (fun h => by cases h), List.replicate n z, all2_rep hR n, fun _ => ⟨b, 0, rfl, CellsAt.of_get fun j v hj => by
    obtain ⟨h1, h2⟩ := flat_get z hz n j v hj
    have hm : j % z.length < z.length := Nat.mod_lt _ hz
    have e : z[j % z.length] = v := by rw [List.getElem?_eq_getElem hm] at h2; exact Option.some.inj h2
    have hj2 : j < (madeCells z.toArray (n * z.length)).toList.length := by simp [madeCells]; exact h1
    have h3 : (madeCells z.toArray (n * z.length)).toList[j]? = some v := by
      rw [List.getElem?_eq_getElem hj2]
      refine congrArg some ?_
      simp [madeCells, hm, e]
    simp only [Mem.cell, hM, Nat.zero_add]
    exact h3⟩⟩

theorem NewS.made {c : Ct} {M : Mem} {p : Mem → AV → Prop} {T size : Nat} {zero : List AV} {m : Unit → Int} {r : Nat → AV} {side : Unit → Prop} (n : Nat) (hm : m () = (n : Int)) (hs : side ())
    (hp : ∀ b M', M b = none → c.B0 ≤ b → (∃ N, M' = M.set b (.row T N (madeCells (AV.denL (fun _ => 0) zero).toArray (n * size)).toList)) → p M' (r b)) :
    NewS c ⟨T, fun _ => (m ()).toNat * size, [], fun _ => (madeCells (AV.denL (fun _ => 0) zero).toArray ((m ()).toNat * size)).toList, r, side⟩ M p :=
  .mk hs fun b M' h1 h2 h3 => hp b M' h1 h2 ⟨(m ()).toNat * size, by rw [h3]; simp [NewI.frag, AV.denL, hm]⟩

theorem StoreS.rowM {c : Ct} {M : Mem} {b o : Unit → Nat} {l : List AV} {p : Mem → Prop} {T N : Nat} {cs cs' : List Value} (hM : M (b ()) = some (.row T N cs)) (hB : c.B0 ≤ b () ∨ c.lent (b ()) = true) (ho : o () + l.length ≤ cs.length) (h1 : l.all AV.one = true)
    (hcs : spliceV cs (o ()) (AV.denL (fun _ => 0) l) = cs') (hp : ∀ M', M' = M.set (b ()) (.row T N cs') → p M') : StoreS c b o l M p := .row hM hB ho h1 (by rw [hcs]; exact hp _ rfl)

def zeroQ : QV := ⟨0, 0, R.zero, R.zero, R.zero⟩
def zeroC : CakeV := ⟨0, [], []⟩
theorem zeroQ_wf : zeroQ.Wf := ⟨by simp [zeroQ, I64], by simp [zeroQ], zeroR_wf, zeroR_wf, zeroR_wf⟩
theorem zeroC_ck (M : Mem) : Ck M ⟨0, none, 0, 0, none, 0, 0⟩ zeroC := ⟨rfl, by simp [zeroC, I64], RdL.nil' .., RdL.nil' ..⟩

theorem RQ.made {M : Mem} {b N n k : Nat} {z : List Value} (hM : M b = some (.row 64 N (madeCells z.toArray (n * 8)).toList)) (hz : z = zeroQ.cells) (hk : n ≤ k) : RQ M (some ⟨b, 0, none⟩) n k (List.replicate n zeroQ) :=
  RdL.made (z := zeroQ.cells) (by simp) (by subst hz; exact hM) ⟨rfl, zeroQ_wf⟩ hk
theorem RC.made {M : Mem} {b N n k : Nat} {z : List Value} (hM : M b = some (.row 40 N (madeCells z.toArray (n * 3)).toList)) (hz : z = CP.cells ⟨0, none, 0, 0, none, 0, 0⟩) (hk : n ≤ k) : RC M (some ⟨b, 0, none⟩) n k (List.replicate n zeroC) :=
  RdL.made (z := CP.cells ⟨0, none, 0, 0, none, 0, 0⟩) (by simp) (by subst hz; exact hM) ⟨_, rfl, zeroC_ck M⟩ hk

def Mem.del (M : Mem) (b : Nat) : Mem := fun i => if i = b then none else M i
theorem del_le (M : Mem) (b : Nat) : (M.del b).le M := fun i f h => by
  unfold Mem.del at h
  split at h
  · cases h
  · exact ⟨f, h, f.le_refl⟩
theorem del_at (M : Mem) (b : Nat) : (M.del b) b = none := by simp [Mem.del]
theorem le_del {Mc M : Mem} {b : Nat} (h : Mc.le M) (hb : Mc b = none) : Mc.le (M.del b) := fun i f hi => by
  obtain ⟨g, h1, h2⟩ := h i f hi
  have : i ≠ b := fun e => by subst e; rw [hb] at hi; cases hi
  exact ⟨g, by simp [Mem.del, this, h1], h2⟩
theorem del_ne {M : Mem} {b i : Nat} {f : Frag} (h : M i = some f) (hne : i ≠ b) : (M.del b) i = some f := by simp [Mem.del, hne, h]
theorem keep_off {M M1 : Mem} {b : Nat} {f : Frag} (h : ∀ i, M i ≠ none → M1 i = M i) (hb : M b = none) : ∀ i, M i ≠ none → (M1.set b f) i = M i := fun i hi => by
  have : i ≠ b := fun e => by subst e; exact hi hb
  simp [Mem.set, this, h i hi]
theorem none_of_keep {M M1 : Mem} {b : Nat} (h : ∀ i, M i ≠ none → M1 i = M i) (hb : M1 b = none) : M b = none := by
  cases hc : M b with
  | none => rfl
  | some f => have := h b (by rw [hc]; simp); rw [hb, hc] at this; cases this

/-- Three queries in a row. -/
def LogAt (M : Mem) (b : Nat) (x y z : QV) : Prop := M b = some (.row 64 24 (x.cells ++ (y.cells ++ z.cells)))
theorem LogAt.rq {M : Mem} {b : Nat} {x y z : QV} (h : LogAt M b x y z) (hx : x.Wf) (hy : y.Wf) (hz : z.Wf) : RQ M (some ⟨b, 0, none⟩) 3 3 [x, y, z] :=
  ⟨rfl, Nat.le_refl _, (fun h => by cases h), [x.cells, y.cells, z.cells], ⟨⟨rfl, rfl, hx⟩, ⟨rfl, rfl, hy⟩, ⟨rfl, rfl, hz⟩, trivial⟩, fun _ => ⟨b, 0, rfl, by simpa using CellsAt.row h⟩⟩
theorem LogAt.up {M M' : Mem} {b : Nat} {x y z : QV} (h : LogAt M b x y z) (hk : ∀ b, M b ≠ none → M' b = M b) : LogAt M' b x y z := by
  have h' : M b = some (.row 64 24 (x.cells ++ (y.cells ++ z.cells))) := h
  show M' b = _
  rw [hk b (by rw [h']; simp)]; exact h'

theorem en_a : askC valueC twoL 2000 0 (R.of 0) (R.of 1) = (R.zero, 4) := by decide +kernel
theorem en_b : askC valueC twoL 2000 0 (R.of 0) (R.of 3) = (R.zero, 2) := by decide +kernel
theorem en_c : askC valueC twoL 0 2 (R.of 0) (R.of 1) = (R.zero, 2) := by decide +kernel
theorem en_e : askC markC twoL 0 (-1) (R.of 0) (R.of 1) = (R.zero, 2) := by decide +kernel
theorem en_f : askC markC twoL 0 0 (R.of 0) (R.of 3) = (R.zero, 6) := by decide +kernel
theorem en_g : totalA twoL 0 2 = (0, 2) := by decide +kernel
theorem en_h : deskC [] 0 = 8 := by decide +kernel
theorem en_i : deskC (List.replicate 7 zeroC) 0 = 4 := by decide +kernel
def cake1b : CakeV := ⟨3, [0, 1, 3], [3, 1]⟩
theorem en_j : deskC [cake0, cake1b] 0 = 8 := by decide +kernel
theorem en_k : replayC twoL (List.replicate 2001 zeroQ) = (0, 4) := by
  have : deskC twoL (List.replicate 2001 zeroQ).length = 4 := by rw [List.length_replicate]; decide +kernel
  rw [replayC, this]; rfl
theorem en_l : replayC [zeroC] [] = (0, 8) := by decide +kernel
def q0 : QV := ⟨1, 1, R.of 0, R.of 2, R.of 4⟩
def q1 : QV := ⟨0, 2, R.of 1, R.of 1, R.of 2⟩
def q2 : QV := ⟨0, 3, R.of 0, R.of 0, R.of 0⟩
def q1' : QV := ⟨0, 2, R.of 1, R.of 1, R.of 1⟩
def q0' : QV := ⟨2, 1, R.of 0, R.of 2, R.of 4⟩
theorem en_m : replayC twoL [q0, q1, q2] = (2, 0) := by decide +kernel
theorem en_o : replayC twoL [q0, q1', q2] = (1, 0) := by decide +kernel
theorem en_q : replayC twoL [q0', q1', q2] = (0, 0) := by decide +kernel
theorem en_v : askC valueC twoL 0 1 ⟨1, 2⟩ (R.of 2) = (⟨5, 2⟩, 0) := by decide +kernel
theorem en_n1 : countC [q0', q1', q2] (-1) = 3 := by decide +kernel
theorem en_n2 : countC [q0', q1', q2] 0 = 2 := by decide +kernel
theorem en_n3 : countC [] (-1) = 0 := by decide +kernel

set_option maxHeartbeats 4000000 in
set_option maxRecDepth 100000 in
theorem askNames_spec (M : Mem) : Spec 5 #[] M fun _ _ v => v = .bool true := by
  refine ok5.spec 900 [] rfl (by kernel_rfl) fun c K hK => ?_
  conv => cbv
  refine CallS.spec (two_spec M) rfl fun B1 M1 v1 hB1 hlt1 hk1 hn1 ⟨b1, p0, p1, hb1, ev1, ht1⟩ => ⟨SA (some ⟨b1, 0, none⟩) 2 2, rfl, ev1.symm, ?_⟩
  conv => cbv
  refine CallS.spec (two_spec M1) rfl fun B2 M2 v2 hB2 hlt2 hk2 hn2 ⟨b2, p20, p21, hb2, ev2, ht2⟩ => ⟨SA (some ⟨b2, 0, none⟩) 2 2, rfl, ev2.symm, ?_⟩
  conv => cbv
  refine NewS.made (T := 64) (size := 8) (zero := ti64.zero) (m := fun _ => 2000) 2000 rfl ⟨by decide, by decide, by decide, by decide⟩ fun b3 M3 n3 B3 ⟨N3, f3⟩ => ?_
  have hk3 : ∀ b, M2 b ≠ none → M3 b = M2 b := by rw [f3]; exact keep_set n3
  have hfull : RQ M3 (some ⟨b3, 0, none⟩) 2000 2000 (List.replicate 2000 zeroQ) := RQ.made (by rw [f3]; exact set_self ..) rfl (Nat.le_refl _)
  have d1 : RC M1 (some ⟨b1, 0, none⟩) 2 2 twoL := ht1.rc (Nat.le_refl _)
  have d3 : RC M3 (some ⟨b1, 0, none⟩) 2 2 twoL := (d1.up ElC.up hk2.le).up ElC.up (le_of_keep hk3)
  have g3 : RC M3 (some ⟨b2, 0, none⟩) 2 2 twoL := RdL.up ElC.up (le_of_keep hk3) (ht2.rc (Nat.le_refl _))
  have K3 : ∀ b, M b ≠ none → M3 b = M b := keep_trans hk1.keep (keep_trans hk2.keep hk3)
  clear f3
  conv => cbv
  refine CallS.pure (of4_spec 0 (by simp [I64]) M3) rfl (.agg [.int .i64 0, .int .i64 1]) rfl rfl ?_
  conv => cbv
  refine CallS.pure (of4_spec 1 (by simp [I64]) M3) rfl (.agg [.int .i64 1, .int .i64 1]) rfl rfl ?_
  conv => cbv
  refine CallS.spec (askValue_spec g3 hfull (0) (by simp [I64]) (R.of 0) (R.of 1) (of_wf' 0 (by omega)) (of_wf' 1 (by omega))) rfl fun B4 M4 v4 hB4 hlt4 hk4 hn4 post => ?_
  rw [en_a] at post
  obtain ⟨ca4, cn4, ck4, qa4, qn4, qk4, ev4, -, -⟩ := post
  refine ⟨.tup [DA ca4 cn4 ck4 qa4 qn4 qk4, .agg [.int .i64 0, .int .i64 0], .int .i64 4], rfl, ev4.symm, ?_⟩
  have d4 := d3.up ElC.up hk4.le
  have g4 := g3.up ElC.up hk4.le
  have K4 := keep_trans K3 hk4.keep
  have hfull := hfull.up ElQ.up hk4.le
  conv => cbv
  refine CallS.pure (of4_spec 0 (by simp [I64]) M4) rfl (.agg [.int .i64 0, .int .i64 1]) rfl rfl ?_
  conv => cbv
  refine CallS.pure (of4_spec 3 (by simp [I64]) M4) rfl (.agg [.int .i64 3, .int .i64 1]) rfl rfl ?_
  conv => cbv
  refine CallS.spec (askValue_spec g4 hfull (0) (by simp [I64]) (R.of 0) (R.of 3) (of_wf' 0 (by omega)) (of_wf' 3 (by omega))) rfl fun B5 M5 v5 hB5 hlt5 hk5 hn5 post => ?_
  rw [en_b] at post
  obtain ⟨ca5, cn5, ck5, qa5, qn5, qk5, ev5, -, -⟩ := post
  refine ⟨.tup [DA ca5 cn5 ck5 qa5 qn5 qk5, .agg [.int .i64 0, .int .i64 0], .int .i64 2], rfl, ev5.symm, ?_⟩
  have d5 := d4.up ElC.up hk5.le
  have g5 := g4.up ElC.up hk5.le
  have K5 := keep_trans K4 hk5.keep
  have hfull := hfull.up ElQ.up hk5.le
  conv => cbv
  refine CallS.pure (of4_spec 0 (by simp [I64]) M5) rfl (.agg [.int .i64 0, .int .i64 1]) rfl rfl ?_
  conv => cbv
  refine CallS.pure (of4_spec 1 (by simp [I64]) M5) rfl (.agg [.int .i64 1, .int .i64 1]) rfl rfl ?_
  conv => cbv
  refine CallS.spec (askValue_spec d5 (RdL.nil' ..) (2) (by simp [I64]) (R.of 0) (R.of 1) (of_wf' 0 (by omega)) (of_wf' 1 (by omega))) rfl fun B6 M6 v6 hB6 hlt6 hk6 hn6 post => ?_
  rw [en_c] at post
  obtain ⟨ca6, cn6, ck6, qa6, qn6, qk6, ev6, -, -⟩ := post
  refine ⟨.tup [DA ca6 cn6 ck6 qa6 qn6 qk6, .agg [.int .i64 0, .int .i64 0], .int .i64 2], rfl, ev6.symm, ?_⟩
  have d6 := d5.up ElC.up hk6.le
  have K6 := keep_trans K5 hk6.keep
  conv => cbv
  refine CallS.pure (of4_spec 0 (by simp [I64]) M6) rfl (.agg [.int .i64 0, .int .i64 1]) rfl rfl ?_
  conv => cbv
  refine CallS.pure (of4_spec 1 (by simp [I64]) M6) rfl (.agg [.int .i64 1, .int .i64 1]) rfl rfl ?_
  conv => cbv
  refine CallS.spec (askMark_spec d6 (RdL.nil' ..) (-1) (by simp [I64]) (R.of 0) (R.of 1) (of_wf' 0 (by omega)) (of_wf' 1 (by omega))) rfl fun B7 M7 v7 hB7 hlt7 hk7 hn7 post => ?_
  rw [en_e] at post
  obtain ⟨ca7, cn7, ck7, qa7, qn7, qk7, ev7, -, -⟩ := post
  refine ⟨.tup [DA ca7 cn7 ck7 qa7 qn7 qk7, .agg [.int .i64 0, .int .i64 0], .int .i64 2], rfl, ev7.symm, ?_⟩
  have d7 := d6.up ElC.up hk7.le
  have K7 := keep_trans K6 hk7.keep
  conv => cbv
  refine CallS.pure (of4_spec 0 (by simp [I64]) M7) rfl (.agg [.int .i64 0, .int .i64 1]) rfl rfl ?_
  conv => cbv
  refine CallS.pure (of4_spec 3 (by simp [I64]) M7) rfl (.agg [.int .i64 3, .int .i64 1]) rfl rfl ?_
  conv => cbv
  refine CallS.spec (askMark_spec d7 (RdL.nil' ..) (0) (by simp [I64]) (R.of 0) (R.of 3) (of_wf' 0 (by omega)) (of_wf' 3 (by omega))) rfl fun B8 M8 v8 hB8 hlt8 hk8 hn8 post => ?_
  rw [en_f] at post
  obtain ⟨ca8, cn8, ck8, qa8, qn8, qk8, ev8, -, -⟩ := post
  refine ⟨.tup [DA ca8 cn8 ck8 qa8 qn8 qk8, .agg [.int .i64 0, .int .i64 0], .int .i64 6], rfl, ev8.symm, ?_⟩
  have d8 := d7.up ElC.up hk8.le
  have K8 := keep_trans K7 hk8.keep
  conv => cbv
  refine CallS.pure (askTotal_spec (qa := none) (qn := 0) (qk := 0) d8 2) rfl (.tup [.int .i64 0, .int .i64 2]) rfl (by rw [en_g]; rfl) ?_
  conv => cbv
  refine CallS.spec (askOpen_spec (RdL.nil' ..)) rfl fun B9 M9 v9 hB9 hlt9 hk9 hn9 ⟨ca9, cn9, ck9, ev9, _⟩ => ⟨.tup [DA ca9 cn9 ck9 none 0 0, .int .i64 8], rfl, (by rw [ev9, en_h]; rfl), ?_⟩
  have d9 := d8.up ElC.up hk9.le
  have K9 := keep_trans K8 hk9.keep
  conv => cbv
  refine NewS.made (T := 40) (size := 3) (zero := ti40.zero) (m := fun _ => 7) 7 rfl ⟨by decide, by decide, by decide, by decide⟩ fun b10 M10 n10 B10 ⟨N10, f10⟩ => ?_
  have hk10 : ∀ b, M9 b ≠ none → M10 b = M9 b := by rw [f10]; exact keep_set n10
  have d10 := d9.up ElC.up (le_of_keep hk10)
  have K10 := keep_trans K9 hk10
  conv => cbv
  refine CallS.spec (askOpen_spec (RC.made (n := 7) (k := 7) (by rw [f10]; exact set_self ..) rfl (Nat.le_refl _))) rfl fun B11 M11 v11 hB11 hlt11 hk11 hn11 ⟨ca11, cn11, ck11, ev11, _⟩ => ⟨.tup [DA ca11 cn11 ck11 none 0 0, .int .i64 4], rfl, (by rw [ev11, en_i]; rfl), ?_⟩
  have d11 := d10.up ElC.up hk11.le
  have K11 := keep_trans K10 hk11.keep
  conv => cbv
  refine CallS.spec (two_spec M11) rfl fun B12 M12 v12 hB12 hlt12 hk12 hn12 ⟨b12, p120, p121, hb12, ev12, ht12⟩ => ⟨SA (some ⟨b12, 0, none⟩) 2 2, rfl, ev12.symm, ?_⟩
  have d12 := d11.up ElC.up hk12.le
  have K12 := keep_trans K11 hk12.keep
  conv => cbv
  refine .mk trivial fun b13 M13 n13 B13 e13 => ?_
  have f13 : M13 = M12.set b13 (.row 3 3 ([0, 1, 3].map EV)) := e13
  have hk13 : ∀ b, M12 b ≠ none → M13 b = M12 b := by rw [f13]; exact keep_set n13
  have d13 := d12.up ElC.up (le_of_keep hk13)
  have K13 := keep_trans K12 hk13
  conv => cbv
  have ht13 := ht12.up hk13
  have bt : c.B0 ≤ b12 := Nat.le_trans hB12 hb12
  have bne : b13 ≠ b12 := fun e => by
    have := ht12.row
    rw [← e, n13] at this
    cases this
  refine .mk b12 0 1 rfl rfl (by decide) ?_
  conv => cbv
  refine .rowM (cs' := p120.cells ++ [EV 3, SV p121.ca p121.cn p121.ck, SV p121.da p121.dn p121.dk]) ht13.row (.inl bt) (by simp) rfl rfl fun Mx fx => ?_
  have r1 : Mx b12 = some (.row 40 6 (p120.cells ++ [EV 3, SV p121.ca p121.cn p121.ck, SV p121.da p121.dn p121.dk])) := by rw [fx]; exact set_self ..
  conv => cbv
  refine .mk b12 0 1 rfl rfl (by decide) ?_
  conv => cbv
  refine .rowM (cs' := p120.cells ++ (CP.cells ⟨3, some ⟨b13, 0, none⟩, 3, 3, p121.da, p121.dn, p121.dk⟩)) r1 (.inl bt) (by simp) rfl rfl fun M14 f14 => ?_
  rw [fx] at f14
  have hj : RC M14 (some ⟨b12, 0, none⟩) 2 2 [cake0, cake1b] := by
    have hu : TwoAt M14 b12 p120 ⟨3, some ⟨b13, 0, none⟩, 3, 3, p121.da, p121.dn, p121.dk⟩ cake0 cake1b := by
      obtain ⟨Mc, q1, q2, q3, q4⟩ := ht13.cakes
      refine ⟨by rw [f14]; exact set_self .., M13.del b12, ?_, del_at _ _, q3.up (le_del q1 q2), rfl, by simp [cake1b, I64], ?_, (q4.up (le_del q1 q2)).dens⟩
      · rw [f14]
        exact le_set_off (le_set_off (del_le _ _) (del_at _ _)) (del_at _ _)
      · exact RI.new (l := [0, 1, 3]) (N := 3) (T := 3) (del_ne (by rw [f13]; exact set_self ..) bne) (by simp [I64]) (by simp)
    exact hu.rc (Nat.le_refl _)
  have nb : M11 b12 = none := by
    cases hc : M11 b12 with
    | none => rfl
    | some f => have := hlt12 b12 (by rw [hc]; simp); omega
  have dle : M11.le M14 := by
    rw [f14]
    exact le_set_off (le_set_off (Mem.le_trans hk12.le (le_of_keep hk13)) nb) nb
  have d14 := d11.up ElC.up dle
  have K14 : ∀ b, M b ≠ none → M14 b = M b := by
    rw [f14]
    exact keep_off (keep_off K13 (none_of_keep K11 nb)) (none_of_keep K11 nb)
  conv => cbv
  refine CallS.spec (askOpen_spec hj) rfl fun B15 M15 v15 hB15 hlt15 hk15 hn15 ⟨ca15, cn15, ck15, ev15, _⟩ => ⟨.tup [DA ca15 cn15 ck15 none 0 0, .int .i64 8], rfl, (by rw [ev15, en_j]; rfl), ?_⟩
  have d15 := d14.up ElC.up hk15.le
  have K15 := keep_trans K14 hk15.keep
  conv => cbv
  refine CallS.spec (two_spec M15) rfl fun B16 M16 v16 hB16 hlt16 hk16 hn16 ⟨b16, p160, p161, hb16, ev16, ht16⟩ => ⟨SA (some ⟨b16, 0, none⟩) 2 2, rfl, ev16.symm, ?_⟩
  have d16 := d15.up ElC.up hk16.le
  have K16 := keep_trans K15 hk16.keep
  conv => cbv
  refine NewS.made (T := 64) (size := 8) (zero := ti64.zero) (m := fun _ => 2001) 2001 rfl ⟨by decide, by decide, by decide, by decide⟩ fun b17 M17 n17 B17 ⟨N17, f17⟩ => ?_
  have hk17 : ∀ b, M16 b ≠ none → M17 b = M16 b := by rw [f17]; exact keep_set n17
  have d17 := d16.up ElC.up (le_of_keep hk17)
  have K17 := keep_trans K16 hk17
  conv => cbv
  refine CallS.pure (replay_spec (cs := twoL) (RdL.up ElC.up (le_of_keep hk17) (ht16.rc (Nat.le_refl _))) (RQ.made (n := 2001) (k := 2001) (by rw [f17]; exact set_self ..) rfl (Nat.le_refl _))) rfl (.tup [.int .i64 0, .int .i64 4]) rfl (by rw [en_k]; rfl) ?_
  conv => cbv
  refine .mk trivial fun b18 M18 n18 B18 e18 => ?_
  have f18 : M18 = M17.set b18 (.row 40 3 (CP.cells ⟨0, none, 0, 0, none, 0, 0⟩)) := e18
  have hk18 : ∀ b, M17 b ≠ none → M18 b = M17 b := by rw [f18]; exact keep_set n18
  have d18 := d17.up ElC.up (le_of_keep hk18)
  have K18 := keep_trans K17 hk18
  conv => cbv
  refine CallS.pure (replay_spec (cs := [zeroC]) (RdL.one (k := 1) (fun _ _ _ => trivial) (CellsAt.new f18) rfl ⟨_, rfl, zeroC_ck _⟩ (Nat.le_refl _)) (RdL.nil' ..)) rfl (.tup [.int .i64 0, .int .i64 8]) rfl (by rw [en_l]; rfl) ?_
  conv => cbv
  refine CallS.pure (of4_spec 0 (by simp [I64]) M18) rfl (.agg [.int .i64 0, .int .i64 1]) rfl rfl ?_
  conv => cbv
  refine CallS.pure (of4_spec 2 (by simp [I64]) M18) rfl (.agg [.int .i64 2, .int .i64 1]) rfl rfl ?_
  conv => cbv
  refine CallS.pure (of4_spec 4 (by simp [I64]) M18) rfl (.agg [.int .i64 4, .int .i64 1]) rfl rfl ?_
  conv => cbv
  refine CallS.pure (of4_spec 1 (by simp [I64]) M18) rfl (.agg [.int .i64 1, .int .i64 1]) rfl rfl ?_
  conv => cbv
  refine CallS.pure (of4_spec 1 (by simp [I64]) M18) rfl (.agg [.int .i64 1, .int .i64 1]) rfl rfl ?_
  conv => cbv
  refine CallS.pure (of4_spec 2 (by simp [I64]) M18) rfl (.agg [.int .i64 2, .int .i64 1]) rfl rfl ?_
  conv => cbv
  refine CallS.pure (of4_spec 0 (by simp [I64]) M18) rfl (.agg [.int .i64 0, .int .i64 1]) rfl rfl ?_
  conv => cbv
  refine CallS.pure (of4_spec 0 (by simp [I64]) M18) rfl (.agg [.int .i64 0, .int .i64 1]) rfl rfl ?_
  conv => cbv
  refine CallS.pure (of4_spec 0 (by simp [I64]) M18) rfl (.agg [.int .i64 0, .int .i64 1]) rfl rfl ?_
  conv => cbv
  refine .mk trivial fun b19 M19 n19 B19 e19 => ?_
  have f19 : M19 = M18.set b19 (.row 64 24 (q0.cells ++ (q1.cells ++ q2.cells))) := e19
  have hk19 : ∀ b, M18 b ≠ none → M19 b = M18 b := by rw [f19]; exact keep_set n19
  have d19 := d18.up ElC.up (le_of_keep hk19)
  have K19 := keep_trans K18 hk19
  conv => cbv
  have w0 : q0.Wf := ⟨by simp [q0, I64], by simp [q0], of_wf' 0 (by omega), of_wf' 2 (by omega), of_wf' 4 (by omega)⟩
  have w1 : q1.Wf := ⟨by simp [q1, I64], by simp [q1], of_wf' 1 (by omega), of_wf' 1 (by omega), of_wf' 2 (by omega)⟩
  have w2 : q2.Wf := ⟨by simp [q2, I64], by simp [q2], of_wf' 0 (by omega), of_wf' 0 (by omega), of_wf' 0 (by omega)⟩
  have w1' : q1'.Wf := ⟨by simp [q1', I64], by simp [q1'], of_wf' 1 (by omega), of_wf' 1 (by omega), of_wf' 1 (by omega)⟩
  have w0' : q0'.Wf := ⟨by simp [q0', I64], by simp [q0'], of_wf' 0 (by omega), of_wf' 2 (by omega), of_wf' 4 (by omega)⟩
  have lg : LogAt M19 b19 q0 q1 q2 := by rw [f19]; exact set_self ..
  have bl : c.B0 ≤ b19 := B19
  refine CallS.spec (two_spec M19) rfl fun B20 M20 v20 hB20 hlt20 hk20 hn20 ⟨b20, p200, p201, hb20, ev20, ht20⟩ => ⟨SA (some ⟨b20, 0, none⟩) 2 2, rfl, ev20.symm, ?_⟩
  have d20 := d19.up ElC.up hk20.le
  have K20 := keep_trans K19 hk20.keep
  have lg := lg.up hk20.keep
  conv => cbv
  refine CallS.pure (replay_spec (cs := twoL) (ht20.rc (Nat.le_refl _)) (lg.rq w0 w1 w2)) rfl (.tup [.int .i64 2, .int .i64 0]) rfl (by rw [en_m]; rfl) ?_
  conv => cbv
  refine CallS.pure (of4_spec 1 (by simp [I64]) M20) rfl (.agg [.int .i64 1, .int .i64 1]) rfl rfl ?_
  conv => cbv
  refine .mk b19 0 1 rfl rfl (by decide) ?_
  conv => cbv
  refine .rowM (cs' := q0.cells ++ (q1'.cells ++ q2.cells)) lg (.inl bl) (by simp) rfl rfl fun M21 f21 => ?_
  have lg : LogAt M21 b19 q0 q1' q2 := by rw [f21]; exact set_self ..
  have K21 : ∀ b, M b ≠ none → M21 b = M b := by rw [f21]; exact keep_off K20 (none_of_keep K18 n19)
  have o21 : M18.le M21 := by rw [f21]; exact le_set_off (Mem.le_trans (le_of_keep hk19) hk20.le) n19
  have d21 := d18.up ElC.up o21
  conv => cbv
  refine CallS.spec (two_spec M21) rfl fun B22 M22 v22 hB22 hlt22 hk22 hn22 ⟨b22, p220, p221, hb22, ev22, ht22⟩ => ⟨SA (some ⟨b22, 0, none⟩) 2 2, rfl, ev22.symm, ?_⟩
  have d22 := d21.up ElC.up hk22.le
  have K22 := keep_trans K21 hk22.keep
  have lg := lg.up hk22.keep
  conv => cbv
  refine CallS.pure (replay_spec (cs := twoL) (ht22.rc (Nat.le_refl _)) (lg.rq w0 w1' w2)) rfl (.tup [.int .i64 1, .int .i64 0]) rfl (by rw [en_o]; rfl) ?_
  conv => cbv
  refine .mk b19 0 0 rfl rfl (by decide) ?_
  conv => cbv
  refine .rowM (cs' := q0'.cells ++ (q1'.cells ++ q2.cells)) lg (.inl bl) (by simp) rfl rfl fun M23 f23 => ?_
  have lg : LogAt M23 b19 q0' q1' q2 := by rw [f23]; exact set_self ..
  have K23 : ∀ b, M b ≠ none → M23 b = M b := by rw [f23]; exact keep_off K22 (none_of_keep K18 n19)
  have o23 : M18.le M23 := by rw [f23]; exact le_set_off (Mem.le_trans o21 hk22.le) n19
  have d23 := d18.up ElC.up o23
  conv => cbv
  refine CallS.spec (two_spec M23) rfl fun B24 M24 v24 hB24 hlt24 hk24 hn24 ⟨b24, p240, p241, hb24, ev24, ht24⟩ => ⟨SA (some ⟨b24, 0, none⟩) 2 2, rfl, ev24.symm, ?_⟩
  have d24 := d23.up ElC.up hk24.le
  have K24 := keep_trans K23 hk24.keep
  have lg := lg.up hk24.keep
  conv => cbv
  refine CallS.pure (replay_spec (cs := twoL) (ht24.rc (Nat.le_refl _)) (lg.rq w0' w1' w2)) rfl (.tup [.int .i64 0, .int .i64 0]) rfl (by rw [en_q]; rfl) ?_
  conv => cbv
  have whalf : (⟨1, 2⟩ : R).Wf := ⟨by simp [I64], by simp [I64]⟩
  refine CallS.pure (of4_spec 2 (by simp [I64]) M24) rfl (.agg [.int .i64 2, .int .i64 1]) rfl rfl ?_
  conv => cbv
  refine CallS.spec (askValue_spec d24 (RdL.nil' ..) 1 (by simp [I64]) ⟨1, 2⟩ (R.of 2) whalf (of_wf' 2 (by omega))) rfl fun B25 M25 v25 hB25 hlt25 hk25 hn25 post => ?_
  rw [en_v] at post
  obtain ⟨ca25, cn25, ck25, qa25, qn25, qk25, ev25, _, lv⟩ := post.ok
  refine ⟨.tup [DA ca25 cn25 ck25 qa25 qn25 qk25, .agg [.int .i64 5, .int .i64 2], .int .i64 0], rfl, ev25.symm, ?_⟩
  have lvn := lv.len
  simp at lvn
  subst lvn
  have lg := lg.up hk25.keep
  have K25 := keep_trans K24 hk25.keep
  conv => cbv
  refine ⟨fun _ => ?_, fun h => absurd h (by decide)⟩
  obtain ⟨bq, oq, ea, hp, _⟩ := lv.query (i := 0) (by simp)
  refine .mk bq oq 0 ea rfl (by decide) ?_
  conv => cbv
  refine .mk [.int .i64 1, .int .u8 1, .int .i64 1, .int .i64 2, .int .i64 2, .int .i64 1, .int .i64 5, .int .i64 2] rfl rfl hp ?_
  conv => cbv
  refine CallS.pure (of4_spec 2 (by simp [I64]) M25) rfl (.agg [.int .i64 2, .int .i64 1]) rfl rfl ?_
  conv => cbv
  refine CallS.pure (count_spec (lg.rq w0' w1' w2) (by decide) (-1)) rfl (.int .i64 3) rfl (by rw [en_n1]; rfl) ?_
  conv => cbv
  refine CallS.pure (count_spec (lg.rq w0' w1' w2) (by decide) 0) rfl (.int .i64 2) rfl (by rw [en_n2]; rfl) ?_
  conv => cbv
  refine CallS.pure (count_spec (RdL.nil' ..) (by decide) (-1)) rfl (.int .i64 0) rfl (by rw [en_n3]; rfl) ?_
  conv => cbv
  refine CallS.spec (alive4_spec M25) rfl fun B2 M2 v2 hB2 hlt2 hk2 hn2 hv => ⟨.tt, rfl, hv.symm, ?_⟩
  conv => cbv
  exact hK.ground rfl (Keeps.of_keep (keep_trans K25 hk2.keep)) rfl

end Go.SX
