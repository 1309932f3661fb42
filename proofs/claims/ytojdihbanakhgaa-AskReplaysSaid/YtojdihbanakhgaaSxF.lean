/- The reading of the syntax is sound, 2: values, allocations, stores, new rows. Generic over the program. -/
import Derived.Test.YtojdihbanakhgaaSxE
namespace Go.SX

section
variable {P : Program} {T : Tbl} {c : Ct} {ρ : Nat → Nat} {s : S} {a : Act} {w : World}

/-- A list laid over another one from a place on. -/
def spliceV (c : List Value) (off : Nat) (v : List Value) : List Value := c.take off ++ v ++ c.drop (off + v.length)

theorem length_spliceV {c v : List Value} {off : Nat} (h : off + v.length ≤ c.length) : (spliceV c off v).length = c.length := by
  simp only [spliceV, List.length_append, List.length_take, List.length_drop]; omega

theorem length_spliceA {c v : List AV} {off : Nat} (h : off + v.length ≤ c.length) : (spliceA c off v).length = c.length := by
  simp only [spliceA, List.length_append, List.length_take, List.length_drop]; omega

theorem fold_set : ∀ (l : List Value) (k off : Nat) (cs : Array Value), off + k + l.length ≤ cs.size →
    (l.zipIdx k).foldl (fun cs (p : Value × Nat) => cs.setIfInBounds (off + p.2) p.1) cs = (cs.toList.take (off + k) ++ l ++ cs.toList.drop (off + k + l.length)).toArray
  | [], k, off, cs, _ => by simp [List.zipIdx, List.take_append_drop]
  | v :: l, k, off, cs, h => by
    rw [List.zipIdx_cons, List.foldl_cons, fold_set l (k + 1) off _ (by simp at h ⊢; omega)]
    congr 1
    have e := list_seg_step cs.toList (off + k) v l (by simp at h ⊢; omega)
    simpa [Array.toList_setIfInBounds, Nat.add_assoc] using e

theorem fold_set' (v : Value) (off : Nat) (cs : Array Value) (h : off + v.cells.size ≤ cs.size) :
    (v.cells.zipIdx.foldl (fun cs (p : Value × Nat) => cs.setIfInBounds (off + p.2) p.1) cs) = (spliceV cs.toList off v.cells.toList).toArray := by
  have h0 : v.cells.zipIdx = (v.cells.toList.zipIdx 0).toArray := by
    apply Array.ext'
    simp [Array.toList_zipIdx]
  rw [h0, List.foldl_toArray]
  have := fold_set v.cells.toList 0 off cs (by simpa using h)
  simpa [spliceV] using this

theorem spliceA_den (c v : List AV) (off : Nat) : AV.denL ρ (spliceA c off v) = spliceV (AV.denL ρ c) off (AV.denL ρ v) := by
  simp [AV.denL_eq, spliceA, spliceV, List.map_append, List.map_take, List.map_drop]

theorem DenL.splice {c v : List AV} {cs vs : List Value} (h : DenL ρ c cs) (h' : DenL ρ v vs) (off : Nat) : DenL ρ (spliceA c off v) (spliceV cs off vs) := by
  have hl := h'.length
  unfold spliceA spliceV
  rw [hl]
  exact ((h.take off).append h').append (h.drop _)

theorem spliceA_wf (p : Nat → Bool) {c v : List AV} (off : Nat) (h : AV.wfL p c = true) (h' : AV.wfL p v = true) : AV.wfL p (spliceA c off v) = true := by
  rw [AV.wfL_eq] at *
  simp only [spliceA, List.all_append, Bool.and_eq_true]
  exact ⟨⟨by rw [List.all_eq_true] at *; exact fun x hx => h x (List.mem_of_mem_take hx), h'⟩, by rw [List.all_eq_true] at *; exact fun x hx => h x (List.mem_of_mem_drop hx)⟩

/-! ### build, buildSlice -/

theorem fill_build {fs : List FI} {places : List (Nat × Nat)} (hp : ∀ (i : Nat) (f : FI), fs[i]? = some f → places[i]? = some (f.off, f.size)) (ev : Operand → AV) (ρa : Operand → Value) (hev : ∀ x, Den ρ (ev x) (ρa x)) :
    ∀ (parts : List (Nat × Operand)) (c : List AV) (l : List AV), buildA fs c (parts.map fun p => (p.1, ev p.2)) = some l →
      Instr.fill (fun x => places[x]?) (AV.denL ρ c).toArray (parts.map fun p => (p.1, ρa p.2)) = some (AV.denL ρ l).toArray
  | [], c, l, h => by simp [buildA] at h; subst h; rfl
  | (i, x) :: r, c, l, h => by
    simp only [List.map_cons, buildA] at h
    cases hf : fs[i]? with
    | none => simp [hf] at h
    | some f =>
      cases hx : (ev x).cellsA with
      | none => simp [hf, hx] at h
      | some m =>
        simp only [hf, hx] at h
        split at h
        · rename_i hc
          obtain ⟨hc1, hc2⟩ := hc
          have hcells := AV.cellsA_den hx (hev x)
          have hlen : (AV.denL ρ m).length = f.size := by rw [AV.denL_eq, List.length_map]; exact hc1
          have hcl : (AV.denL ρ c).length = c.length := by rw [AV.denL_eq, List.length_map]
          have hsz : (ρa x).cells.size = f.size := by rw [hcells]; simpa using hlen
          simp only [List.map_cons, Instr.fill, hp i f hf]
          rw [if_neg (by simp only [hsz]; simp [hcl]; omega)]
          rw [fold_set' _ _ _ (by rw [hsz]; simp [hcl]; omega), hcells]
          have := fill_build hp ev ρa hev r (spliceA c f.off m) l h
          rw [spliceA_den] at this
          exact this
        · cases h

theorem fill_slice {sz : Nat} (ev : Operand → AV) (ρa : Operand → Value) (hev : ∀ x, Den ρ (ev x) (ρa x)) :
    ∀ (parts : List (Nat × Operand)) (c : List AV) (l : List AV), fillA sz c (parts.map fun p => (p.1, ev p.2)) = some l →
      Instr.fill (fun i => some (i * sz, sz)) (AV.denL ρ c).toArray (parts.map fun p => (p.1, ρa p.2)) = some (AV.denL ρ l).toArray ∧ l.length = c.length
  | [], c, l, h => by simp [fillA] at h; subst h; exact ⟨rfl, rfl⟩
  | (i, x) :: r, c, l, h => by
    simp only [List.map_cons, fillA] at h
    cases hx : (ev x).cellsA with
    | none => simp [hx] at h
    | some m =>
      simp only [hx] at h
      split at h
      · rename_i hc
        obtain ⟨hc1, hc2⟩ := hc
        have hcells := AV.cellsA_den hx (hev x)
        have hlen : (AV.denL ρ m).length = sz := by rw [AV.denL_eq, List.length_map]; exact hc1
        have hcl : (AV.denL ρ c).length = c.length := by rw [AV.denL_eq, List.length_map]
        have hsz : (ρa x).cells.size = sz := by rw [hcells]; simpa using hlen
        simp only [List.map_cons, Instr.fill]
        rw [if_neg (by simp only [hsz]; simp [hcl]; omega)]
        rw [fold_set' _ _ _ (by rw [hsz]; simp [hcl]; omega), hcells]
        have := fill_slice ev ρa hev r (spliceA c (i * sz) m) l h
        rw [spliceA_den] at this
        exact ⟨this.1, this.2.trans (length_spliceA (by omega))⟩
      · cases h

theorem repL_length (n : Nat) (z : List AV) : (repL n z).length = n * z.length := by
  induction n with
  | zero => simp [repL]
  | succ n ih => simp [repL, ih, Nat.add_mul]; omega

theorem repL_get (n : Nat) (z : List AV) (i : Nat) (h : i < n * z.length) : (repL n z)[i]? = z[i % z.length]? := by
  induction n generalizing i with
  | zero => simp at h
  | succ n ih =>
    rw [repL]
    by_cases hi : i < z.length
    · rw [List.getElem?_append_left hi, Nat.mod_eq_of_lt hi]
    · have h' : i < n * z.length + z.length := by rw [Nat.add_mul] at h; omega
      rw [List.getElem?_append_right (by omega), ih (i - z.length) (by omega), ← Nat.mod_eq_sub_mod (by omega)]

theorem repL_made (n : Nat) (z : List AV) (hz : z ≠ []) : (AV.denL ρ (repL n z)).toArray = madeCells (AV.denL ρ z).toArray (n * z.length) := by
  apply Array.ext
  · simp [AV.denL_eq, repL_length, madeCells]
  · intro i h1 h2
    have hl : i < n * z.length := by simpa [AV.denL_eq, repL_length] using h1
    have hz0 : 0 < z.length := List.length_pos_iff.2 hz
    have hm : i % z.length < z.length := Nat.mod_lt _ hz0
    have := repL_get n z i hl
    have hri : i < (repL n z).length := by rw [repL_length]; exact hl
    rw [List.getElem?_eq_getElem hri, List.getElem?_eq_getElem hm, Option.some.injEq] at this
    simp only [AV.denL_eq, madeCells, List.getElem_toArray, List.getElem_map, Array.getElem_map, Array.getElem_range, this, List.size_toArray, List.length_map]
    rw [getElem!_pos _ _ (by simpa using hm)]
    simp

theorem repL_wf (p : Nat → Bool) (n : Nat) (z : List AV) (h : AV.wfL p z = true) : AV.wfL p (repL n z) = true := by
  induction n with
  | zero => rfl
  | succ n ih => rw [repL, AV.wfL_eq, List.all_append, ← AV.wfL_eq, ← AV.wfL_eq, h, ih]; rfl

theorem buildA_wf (p : Nat → Bool) {fs : List FI} : ∀ (parts : List (Nat × AV)) (c l : List AV), buildA fs c parts = some l → AV.wfL p c = true → (∀ q ∈ parts, q.2.wf p = true) → AV.wfL p l = true
  | [], c, l, h, hc, _ => by simp [buildA] at h; subst h; exact hc
  | (i, x) :: r, c, l, h, hc, hp => by
    simp only [buildA] at h
    split at h
    · rename_i f m hf hx
      split at h
      · exact buildA_wf p r _ _ h (spliceA_wf p _ hc (AV.cellsA_wf p hx (hp (i, x) (by simp)))) (fun q hq => hp q (by simp [hq]))
      · cases h
    · cases h

/-! ### Values -/

theorem wfL_get (p : Nat → Bool) {l : List AV} {i : Nat} {x : AV} (h : AV.wfL p l = true) (hx : l[i]? = some x) : x.wf p = true := by
  rw [AV.wfL_eq, List.all_eq_true] at h
  exact h x (List.mem_of_getElem? hx)

theorem wfL_take (p : Nat → Bool) {l : List AV} (n : Nat) (h : AV.wfL p l = true) : AV.wfL p (l.take n) = true := by
  rw [AV.wfL_eq, List.all_eq_true] at *
  exact fun x hx => h x (List.mem_of_mem_take hx)
theorem wfL_drop (p : Nat → Bool) {l : List AV} (n : Nat) (h : AV.wfL p l = true) : AV.wfL p (l.drop n) = true := by
  rw [AV.wfL_eq, List.all_eq_true] at *
  exact fun x hx => h x (List.mem_of_mem_drop hx)

theorem denL_take (l : List AV) (n : Nat) : AV.denL ρ (l.take n) = (AV.denL ρ l).take n := by simp [AV.denL_eq, List.map_take]
theorem denL_drop (l : List AV) (n : Nat) : AV.denL ρ (l.drop n) = (AV.denL ρ l).drop n := by simp [AV.denL_eq, List.map_drop]
theorem denL_get (l : List AV) (i : Nat) : (AV.denL ρ l)[i]? = l[i]?.map (AV.den ρ) := by simp [AV.denL_eq]
theorem denL_length (l : List AV) : (AV.denL ρ l).length = l.length := by simp [AV.denL_eq]

theorem typeInfo_map {t : Nat} {k : TK} (hT : TblOk P T) (h : (T.ty t).map TI.k = some k) : ∃ i, T.ty t = some i ∧ i.k = k ∧ TyOk P t i := by
  cases hi : T.ty t with
  | none => simp [hi] at h
  | some i => simp [hi] at h; exact ⟨i, rfl, h, hT.ty t i hi⟩

theorem DenL_of_sure {l : List AV} {cs : List Value} (hs : AV.sureL l = true) (h : DenL ρ l cs) : Den ρ (.agg l) (.agg cs.toArray) := .inr (by rw [DenL.sure hs h]; rfl)

theorem places_of : ∀ (fs : List Field), (∀ f ∈ fs, P.cellsOf f.type ≠ 0) → fs.mapM (fun f => (P.info? f.type).map fun i => (f.offset, i.size)) = some (fs.map fun f => (f.offset, P.cellsOf f.type))
  | [], _ => rfl
  | f :: fs, h => by
    have h1 := h f (by simp)
    have h2 : (P.info? f.type).map (fun i => (f.offset, i.size)) = some (f.offset, P.cellsOf f.type) := by
      unfold Program.cellsOf at h1 ⊢
      cases hx : P.info? f.type with
      | none => simp [hx] at h1
      | some x => simp
    rw [List.mapM_cons, h2, places_of fs (fun g hg => h g (by simp [hg]))]
    rfl

theorem eqGuard_int (op : BinOp) (t : Nat) (x y : Operand) (k k' : IntKind) (m n : Int) : (eqGuard op t x y (.int k m) (.int k' n)).run P w = .ok () w := by
  cases op <;> simp [eqGuard]
theorem eqGuard_bool (op : BinOp) (t : Nat) (x y : Operand) (m n : Bool) : (eqGuard op t x y (.bool m) (.bool n)).run P w = .ok () w := by
  cases op <;> simp [eqGuard]

theorem cmpA_ints {op : BinOp} {x y r : AV} (h : cmpA op x y = some r) : x ≠ .any ∧ y ≠ .any ∧ (∃ k n, x.den ρ = .int k n) ∧ ∃ k n, y.den ρ = .int k n := by
  unfold cmpA at h
  split at h
  · rename_i h1 h2
    obtain ⟨e1, d1⟩ := AV.lit_den (ρ := ρ) h1
    obtain ⟨e2, d2⟩ := AV.lit_den (ρ := ρ) h2
    exact ⟨e1, e2, ⟨_, _, d1⟩, _, _, d2⟩
  · split at h
    · rename_i h1 h2
      obtain ⟨e1, d1⟩ := AV.asI_den (ρ := ρ) h1
      obtain ⟨e2, d2⟩ := AV.asI_den (ρ := ρ) h2
      exact ⟨e1, e2, ⟨_, _, d1⟩, _, _, d2⟩
    · cases h

theorem boolA_bools {neg : Bool} {x y r : AV} (h : boolA neg x y = some r) : (∃ b, x.den ρ = .bool b) ∧ ∃ b, y.den ρ = .bool b := by
  unfold boolA at h
  split at h <;> first | (cases h; done) | exact ⟨⟨_, rfl⟩, _, rfl⟩

theorem cmpA_sound' {op : BinOp} {x y r : AV} {u v : Value} (h : cmpA op x y = some r) (hx : Den ρ x u) (hy : Den ρ y v) (t : Nat) (ox oy : Operand) :
    ∃ z, ((eqGuard op t ox oy u v).run P w = .ok () w ∧ (binOp op t u v).run P w = .ok z w) ∧ Den ρ r z := by
  obtain ⟨z, hz, hd⟩ := cmpA_sound (P := P) (w := w) h hx hy t
  obtain ⟨e1, e2, ⟨k, n, d1⟩, k', n', d2⟩ := cmpA_ints (ρ := ρ) h
  refine ⟨z, ⟨?_, hz⟩, hd⟩
  rw [hx.out e1, hy.out e2, d1, d2]; exact eqGuard_int ..

theorem nilA_sound {t e : Nat} (ht : P.underlying t = some (.slice e)) {x y r : AV} {u v : Value} (h : nilA x y = some r) (hx : Den ρ x u) (hy : Den ρ y v) (ox oy : Operand) :
    ∃ z, ((eqGuard .eql t ox oy u v).run P w = .ok () w ∧ (binOp .eql t u v).run P w = .ok z w) ∧ Den ρ r z := by
  have key : ∀ (a : Option Addr) (n k : Nat), (eqGuard .eql t ox oy (.slice a n k) (.slice none 0 0)).run P w = .ok () w ∧ (binOp .eql t (.slice a n k) (.slice none 0 0)).run P w = .ok (.bool a.isNone) w := fun a n k => by
    refine ⟨by simp [eqGuard], ?_⟩
    have h1 : ∀ d, (Op.equalIn (d + 1) t (.slice a n k) (.slice none 0 0)).run P w = .ok a.isNone w := fun d => by
      cases a <;> simp [Op.equalIn, run_underlying ht]
    have h2 : (Op.equal t (.slice a n k) (.slice none 0 0)).run P w = .ok a.isNone w := h1 9999
    simp [binOp, h2]
  unfold nilA at h
  split at h
  · cases h
    rw [hx.out (by simp), hy.out (by simp)]
    exact ⟨_, key _ _ _, .inr rfl⟩
  · cases h
    rw [hx.out (by simp), hy.out (by simp)]
    exact ⟨_, key none 0 0, .inr rfl⟩
  · cases h

theorem binA_sound (hT : TblOk P T) {op : BinOp} {t : Nat} {x y r : AV} {u v : Value} (h : binA T op t x y = some r) (hx : Den ρ x u) (hy : Den ρ y v) (ox oy : Operand) :
    ∃ z, ((eqGuard op t ox oy u v).run P w = .ok () w ∧ (binOp op t u v).run P w = .ok z w) ∧ Den ρ r z := by
  unfold binA at h
  split at h
  · split at h
    · rename_i l m
      split at h
      · rename_i ks hk _
        have := eqA_sound (w := w) (ρ := ρ) hT hk h
        rw [hx.out (by simp), hy.out (by simp)]
        refine ⟨_, ⟨?_, this.1⟩, .inr rfl⟩
        simp [eqGuard, AV.den, (hT.eqk t ks hk).1]
      · rename_i ks hk _
        have := eqA_sound (w := w) (ρ := ρ) hT hk h
        rw [hx.out (by simp), hy.out (by simp)]
        refine ⟨_, ⟨?_, this.1⟩, .inr rfl⟩
        simp [eqGuard, AV.den, (hT.eqk t ks hk).1]
      · cases h
    · split at h
      · rename_i hk _
        obtain ⟨ti, hti, hki, hty⟩ := typeInfo_map hT hk
        have ht := tk_bool (hty.kind.trans hki)
        obtain ⟨h1, _, h3, h4⟩ := boolA_sound (P := P) (w := w) (ρ := ρ) h ht
        obtain ⟨⟨b, e1⟩, d, e2⟩ := boolA_bools (ρ := ρ) h
        rw [hx.out h3, hy.out h4]
        exact ⟨_, ⟨by rw [e1, e2]; exact eqGuard_bool .., h1⟩, .inr rfl⟩
      · rename_i hk _
        obtain ⟨ti, hti, hki, hty⟩ := typeInfo_map hT hk
        have ht := tk_bool (hty.kind.trans hki)
        obtain ⟨h1, _, h3, h4⟩ := boolA_sound (P := P) (w := w) (ρ := ρ) h ht
        obtain ⟨⟨b, e1⟩, d, e2⟩ := boolA_bools (ρ := ρ) h
        rw [hx.out h3, hy.out h4]
        exact ⟨_, ⟨by rw [e1, e2]; exact eqGuard_bool .., h1⟩, .inr rfl⟩
      · rename_i hk _
        obtain ⟨ti, hti, hki, hty⟩ := typeInfo_map hT hk
        exact nilA_sound (tk_slice (hty.kind.trans hki)) h hx hy ox oy
      · exact cmpA_sound' h hx hy t ox oy
  · split at h
    · rename_i h1 h2
      split at h
      · rename_i e
        subst e
        obtain ⟨z, hz, rfl⟩ := Option.map_eq_some_iff.1 h
        obtain ⟨e1, d1⟩ := AV.lit_den (ρ := ρ) h1
        obtain ⟨e2, d2⟩ := AV.lit_den (ρ := ρ) h2
        rw [hx.out e1, hy.out e2, d1, d2]
        exact ⟨_, ⟨eqGuard_int .., litF_run hz⟩, .inr rfl⟩
      · cases h
    · cases h

theorem val_sound (hT : TblOk P T) {o : Oper} {r : AV} (h : valF T o.op s.eval s.ob = some r) (hg : Gam c ρ s a w) : ∃ v, (execOp a.eval o).run P w = .ok (.value v) w ∧ Den ρ r v := by
  have D : ∀ x, Den ρ (s.eval x) (a.eval x) := fun x => hg.eval x
  have O : ∀ {x y}, s.eval x = y → y ≠ .any → a.eval x = y.den ρ := fun {x y} e hy => (D x).out (by rw [e]; exact hy) |>.trans (by rw [e])
  unfold valF at h
  unfold execOp
  split at h
  -- move, assign
  · rename_i x ho; rw [ho]; cases h; exact ⟨_, rfl, D x⟩
  · rename_i x ho; rw [ho]; cases h; exact ⟨_, rfl, D x⟩
  -- pick
  · rename_i q x y ho
    rw [ho]
    split at h
    · rename_i e; cases h; refine ⟨a.eval x, ?_, D x⟩; simp [O e (by simp), AV.den, asBool]
    · rename_i e; cases h; refine ⟨a.eval y, ?_, D y⟩; simp [O e (by simp), AV.den, asBool]
    · cases h
  -- load
  · rename_i t x ho
    rw [ho]
    split at h
    · rename_i id off e
      have ex := O e (by simp)
      split at h
      · rename_i U l i hob hti
        obtain ⟨cs, _, hd, hcell⟩ := ob_cell hg hob
        have hi := hT.ty t i hti
        simp only [Instr.loadAt, ex, AV.den, Instr.sureAddr]
        split at h
        · rename_i hagg
          dsimp only at h
          split at h
          · rename_i hlen
            cases h
            have hd' := (hd.drop off).take i.size
            have hlen' : ((cs.drop off).take i.size).length = i.size := by rw [← hd'.length]; exact hlen
            have := run_loadVar_agg (w := w) hi hagg (b := ρ id) (o := off) (l := (cs.drop off).take i.size) hlen' (fun j v hv => by
              rw [hcell]
              have : j < i.size := by
                have := (List.getElem?_eq_some_iff.1 hv).1; omega
              simpa [List.getElem?_take, List.getElem?_drop, this] using hv)
            refine ⟨.agg ((cs.drop off).take i.size).toArray, by simp [this], ?_⟩
            split
            · rename_i hs; exact DenL_of_sure hs hd'
            · exact .inl rfl
          · cases h
        · rename_i hagg
          obtain ⟨v, hv, hdv⟩ := hd.get h
          have := run_loadVar_cell (w := w) hi (by simpa using hagg) (b := ρ id) (o := off) (v := v) (by rw [hcell]; exact hv)
          exact ⟨v, by simp [this], hdv⟩
      · cases h
    · cases h
  -- fieldAddr
  · rename_i t x i ho
    rw [ho]
    split at h
    · rename_i fs hk
      obtain ⟨ti, hti, hki, hty⟩ := typeInfo_map hT hk
      obtain ⟨d, hd, htk⟩ := hty.und'
      rw [hki] at htk
      obtain ⟨fa, hfa, hfs⟩ := tk_struct htk
      cases hfa
      have run : ∀ {f : FI} {b o : Nat}, fs[i]? = some f → f.size ≠ 0 → (Instr.fieldAt t (.pointer (some ⟨b, o, none⟩)) i).run P w = .ok (.pointer (some ⟨b, o + f.off, none⟩)) w := fun {f b o} hf hs => by
        rw [hfs] at hf
        simp only [List.getElem?_map, Option.map_eq_some_iff] at hf
        obtain ⟨g, hg', rfl⟩ := hf
        have hg2 : fa[i]? = some g := by simpa using hg'
        simp only [] at hs ⊢
        simp [Instr.fieldAt, run_underlying hd, hg2, Instr.sureAddr, fieldPlace, cellsOf_size (P := P) (w := w) rfl hs, hs, addr_add]
      split at h
      · rename_i f id off hf e
        split at h
        · cases h
        · rename_i hs; cases h
          exact ⟨_, by simp [O e (by simp), AV.den, run hf hs], .inr rfl⟩
      · rename_i f b q hf e
        split at h
        · cases h
        · rename_i hs; cases h
          exact ⟨_, by simp [O e (by simp), AV.den, run hf hs], .inr rfl⟩
      · cases h
    · cases h
  -- field
  · rename_i t x i ho
    rw [ho]
    split at h
    · rename_i fs hk
      obtain ⟨ti, hti, hki, hty⟩ := typeInfo_map hT hk
      obtain ⟨d, hd, htk⟩ := hty.und'
      rw [hki] at htk
      obtain ⟨fa, hfa, hfs⟩ := tk_struct htk
      cases hfa
      split at h
      · rename_i f l hf e
        have ex := O e (by simp)
        rw [hfs] at hf
        simp only [List.getElem?_map, Option.map_eq_some_iff] at hf
        obtain ⟨g, hg', rfl⟩ := hf
        have hg2 : fa[i]? = some g := by simpa using hg'
        dsimp only at h
        split at h
        · rename_i hagg
          split at h
          · rename_i hc
            cases h
            refine ⟨.agg (((AV.denL ρ l).drop g.offset).take (P.cellsOf g.type)).toArray, ?_, .inr (by simp [AV.den, denL_take, denL_drop])⟩
            have h1 := aggD_run (P := P) (w := w) (und_of_cells hagg)
            have h2 := cellsOf_size (P := P) (w := w) rfl hc.1
            simp only [Instr.field, ex, AV.den, Sem.run_bind, run_underlying hd, Result.andThen_ok, hg2, asAgg, Sem.run_pure, part, h1, hagg, if_true, h2]
            have e1 : (AV.denL ρ l).toArray.extract g.offset (g.offset + P.cellsOf g.type) = (((AV.denL ρ l).drop g.offset).take (P.cellsOf g.type)).toArray := by
              apply Array.ext'
              simp [List.extract_eq_take_drop]
            rw [e1]
          · cases h
        · rename_i hagg
          split at h
          · rename_i hund
            refine ⟨r.den ρ, ?_, .inr rfl⟩
            have hl : (AV.denL ρ l).toArray[g.offset]? = some (r.den ρ) := by simp [denL_get, h]
            have h1 := aggD_run (P := P) (w := w) hund
            simp only [Instr.field, ex, AV.den, Sem.run_bind, run_underlying hd, Result.andThen_ok, hg2, asAgg, Sem.run_pure, part, h1, hagg, Bool.false_eq_true, if_false, hl]
          · cases h
      · cases h
    · cases h
  -- extract
  · rename_i x i ho
    rw [ho]
    split at h
    · rename_i l e
      refine ⟨r.den ρ, ?_, .inr rfl⟩
      have hl : (AV.denL ρ l).toArray[i]? = some (r.den ρ) := by simp [denL_get, h]
      simp only [Instr.extract, O e (by simp), AV.den, hl, Sem.run_bind, Sem.run_pure, Result.andThen_ok]
    · cases h
  -- not
  · rename_i t x ho
    rw [ho]
    split at h
    · rename_i e; cases h; exact ⟨.bool false, by simp [Op.unary, O e (by simp), AV.den], .inr rfl⟩
    · rename_i e; cases h; exact ⟨.bool true, by simp [Op.unary, O e (by simp), AV.den], .inr rfl⟩
    · rename_i b e; cases h; exact ⟨.bool (!b ()), by simp [Op.unary, O e (by simp), AV.den], .inr rfl⟩
    · cases h
  -- binOp
  · rename_i op t x y yt ho
    rw [ho]
    obtain ⟨v, hv, hd⟩ := binA_sound (w := w) hT h (D x) (D y) x y
    exact ⟨v, by simp [Sem.run_bind, hv.1, hv.2], hd⟩
  -- convert
  · rename_i src dst x ho
    rw [ho]
    split at h
    · rename_i k0 n k e hsrc hk
      cases h
      obtain ⟨ti, hti, hki, hty⟩ := typeInfo_map hT hk
      have hd := tk_int (hty.kind.trans hki)
      obtain ⟨si, hsi⟩ := Option.isSome_iff_exists.1 hsrc
      obtain ⟨sd, hsd, _⟩ := (hT.ty src si hsi).und'
      refine ⟨.int k (k.wrap n), ?_, .inr rfl⟩
      simp [convert, run_underlying hsd, run_underlying hd, O e (by simp), AV.den, Conv.intToInt]
    · cases h
  -- makeFunc
  · rename_i fn first cap ho
    rw [ho]
    dsimp only at h
    split at h
    · rename_i hs
      cases h
      simp only [Bool.and_eq_true] at hs
      have key : ∀ (l : List Operand), AV.sureL (l.map s.eval) = true → AV.denL ρ (l.map s.eval) = l.map a.eval := fun l hl => by
        rw [AV.sureL_eq, List.all_eq_true] at hl
        rw [AV.denL_eq, List.map_map]
        apply List.map_congr_left
        intro x hx
        have := hl (s.eval x) (List.mem_map.2 ⟨x, hx, rfl⟩)
        exact ((D x).out (fun e => by rw [e] at this; cases this)).symm
      refine ⟨.func fn (first.map a.eval) (cap.map a.eval), by simp [Instr.makeFunc], .inr ?_⟩
      rw [AV.den, key _ hs.1, key _ hs.2]
      have e : ∀ l : Array Operand, l.map a.eval = (l.toList.map a.eval).toArray := fun l => by apply Array.ext'; simp
      rw [e first, e cap]
    · cases h
  -- nilCheck
  · rename_i x ho
    rw [ho]
    split at h
    · rename_i id off e; cases h; exact ⟨_, by simp [O e (by simp), AV.den], .inr rfl⟩
    · rename_i b q e; cases h; exact ⟨_, by simp [O e (by simp), AV.den], .inr rfl⟩
    · rename_i f m n e; cases h; exact ⟨_, by simp [O e (by simp), AV.den], .inr rfl⟩
    · cases h
  -- build
  · rename_i t parts ho
    rw [ho]
    split at h
    · rename_i i hti
      have hi := hT.ty t i hti
      split at h
      · rename_i fs hk
        split at h
        · rename_i hall
          split at h
          · rename_i l hb
            cases h
            obtain ⟨d, hd, htk⟩ := hi.und'
            rw [hk] at htk
            obtain ⟨fa, hfa, hfs⟩ := tk_struct htk
            cases hfa
            obtain ⟨z, hz, hzc⟩ := hi.run_zeroValue (w := w)
            have hpl := run_places (P := P) w fa.toList _ (places_of (P := P) fa.toList (by
              intro f hf
              rw [hfs, List.all_eq_true] at hall
              simpa using hall _ (List.mem_map.2 ⟨f, hf, rfl⟩)))
            have hzc' : z.cells = (AV.denL ρ i.zero).toArray := by rw [zero_den hi]; apply Array.ext'; simpa using hzc
            have hfill := fill_build (ρ := ρ) (fs := fs) (places := fa.toList.map fun f => (f.offset, P.cellsOf f.type)) (fun j f hf => by
              rw [hfs] at hf
              simp only [List.getElem?_map, Option.map_eq_some_iff] at hf
              obtain ⟨g, hg', rfl⟩ := hf
              simp [hg']) s.eval a.eval D parts.toList i.zero l hb
            refine ⟨.agg (AV.denL ρ l).toArray, ?_, ?_⟩
            · have hparts : (parts.map fun p => (p.1, a.eval p.2)).toList = parts.toList.map fun p => (p.1, a.eval p.2) := by simp
              obtain ⟨ix, iz, hix, _, _, hiz, hizc⟩ := hi.info'
              have hzz : z = iz := by simp [zeroValue, typeInfo, hix, hiz] at hz; exact hz.symm
              subst hzz
              generalize hpp : fa.toList.map (fun f => (f.offset, P.cellsOf f.type)) = pl at hpl hfill
              have h' : Instr.fill (fun x => pl[x]?) z.cells (parts.map fun p => (p.1, a.eval p.2)).toList = some (AV.denL ρ l).toArray := by rw [hzc', hparts]; exact hfill
              have h2 : (Instr.build t (parts.map fun p => (p.1, a.eval p.2))).run P w = .ok (.agg (AV.denL ρ l).toArray) w := by
                generalize (parts.map fun p => (p.1, a.eval p.2)) = ps at h'
                simp [Instr.build, run_underlying hd, typeInfo, zeroValue, hix, hiz, Array.mapM_eq_mapM_toList, hpl, h']
              simp [h2]
            · split
              · exact .inr rfl
              · exact .inl rfl
          · cases h
        · cases h
      · cases h
    · cases h
  -- len
  · rename_i args argTypes ho
    rw [ho]
    split at h
    · rename_i x t ha hat
      have hargs : args = #[x] := by apply Array.ext'; simpa using ha
      have hats : argTypes = #[t] := by apply Array.ext'; simpa using hat
      subst hargs; subst hats
      split at h
      · rename_i e0 m n q hk e
        cases h
        obtain ⟨ti, hti, hki, hty⟩ := typeInfo_map hT hk
        have hd := tk_slice (hty.kind.trans hki)
        refine ⟨.int .i64 (n () : Int), ?_, .inr rfl⟩
        simp [resolve, invoke, builtin, Builtin.len_, run_underlying hd, O e (by simp), AV.den, goInt]
      · rename_i e0 hk e
        cases h
        obtain ⟨ti, hti, hki, hty⟩ := typeInfo_map hT hk
        have hd := tk_slice (hty.kind.trans hki)
        refine ⟨.int .i64 0, ?_, .inr rfl⟩
        simp [resolve, invoke, builtin, Builtin.len_, run_underlying hd, O e (by simp), AV.den, goInt]
      · cases h
    · cases h
  · cases h

end
end Go.SX
