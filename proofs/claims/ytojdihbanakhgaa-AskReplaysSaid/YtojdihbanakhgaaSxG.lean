/- The reading of the syntax is sound, 3: the whole of it. Generic over the program. -/
import Derived.Test.YtojdihbanakhgaaSxF
namespace Go.SX

section
variable {P : Program} {T : Tbl} {c : Ct} {ρ : Nat → Nat} {s : S} {a : Act} {w : World}

/-! ### It looks at the operands alone -/

theorem map_congr' {l : List (Nat × Operand)} {ev ev' : Operand → AV} (h : ∀ y ∈ l.map (·.2), ev y = ev' y) : (l.map fun p => (p.1, ev p.2)) = l.map fun p => (p.1, ev' p.2) :=
  List.map_congr_left fun p hp => by rw [h p.2 (List.mem_map.2 ⟨p, hp, rfl⟩)]

theorem mapL_congr {l : List Operand} {ev ev' : Operand → AV} (h : ∀ y ∈ l, ev y = ev' y) : l.map ev = l.map ev' := List.map_congr_left h

theorem valF_congr {op : Op} {ev ev' : Operand → AV} {ob : Nat → Ob} (h : ∀ y ∈ op.operands, ev y = ev' y) : valF T op ev ob = valF T op ev' ob := by
  cases op
  case build t parts =>
    have : (parts.toList.map fun p => (p.1, ev p.2)) = parts.toList.map fun p => (p.1, ev' p.2) := map_congr' fun y hy => h y (by simpa [Op.operands] using hy)
    simp only [valF, this]
  case makeFunc fn f g =>
    have h1 : f.toList.map ev = f.toList.map ev' := mapL_congr fun y hy => h y (by simp only [Op.operands, Array.mem_append]; exact .inl (by simpa using hy))
    have h2 : g.toList.map ev = g.toList.map ev' := mapL_congr fun y hy => h y (by simp only [Op.operands, Array.mem_append]; exact .inr (by simpa using hy))
    simp only [valF, h1, h2]
  case call q =>
    obtain ⟨cal, args, ats⟩ := q
    cases cal with
    | builtin b =>
      cases b <;> try rfl
      simp only [valF]
      split
      · rename_i x t hx ht
        have : ev x = ev' x := h x (by
          have : args = #[x] := by apply Array.ext'; simpa using hx
          subst this; simp [Op.operands, Call.operands])
        rw [this]
      · rfl
    | value f => rfl
    | invoke r m => rfl
  case unOp op t x =>
    have := h x (by simp [Op.operands])
    cases op <;> simp [valF, this]
  all_goals first
    | rfl
    | (rename_i x; have h1 := h x (by simp [Op.operands]); simp [valF, h1]; done)
    | (rename_i x _; have h1 := h x (by simp [Op.operands]); simp [valF, h1]; done)
    | (rename_i x y z; have h1 := h x (by simp [Op.operands]); have h2 := h y (by simp [Op.operands]); have h3 := h z (by simp [Op.operands]); simp [valF, h1, h2, h3]; done)
    | (rename_i op t x y u; have h1 := h x (by simp [Op.operands]); have h2 := h y (by simp [Op.operands]); simp [valF, h1, h2]; done)

theorem allocF_congr {op : Op} {ev ev' : Operand → AV} (h : ∀ y ∈ op.operands, ev y = ev' y) : allocF T op ev = allocF T op ev' := by
  cases op <;> try rfl
  rename_i t x
  simp [allocF, h x (by simp [Op.operands])]

theorem storeF_congr {op : Op} {ev ev' : Operand → AV} {ob : Nat → Ob} (h : ∀ y ∈ op.operands, ev y = ev' y) : storeF T op ev ob = storeF T op ev' ob := by
  cases op <;> try rfl
  rename_i t x y
  simp [storeF, h x (by simp [Op.operands]), h y (by simp [Op.operands])]

theorem newF_congr {op : Op} {ev ev' : Operand → AV} (h : ∀ y ∈ op.operands, ev y = ev' y) : newF T op ev = newF T op ev' := by
  cases op <;> try rfl
  · rename_i t n parts
    have : (parts.toList.map fun p => (p.1, ev p.2)) = parts.toList.map fun p => (p.1, ev' p.2) := map_congr' fun y hy => h y (by simpa [Op.operands] using hy)
    simp only [newF, this]
  · rename_i t x y
    simp only [newF, h x (by simp [Op.operands]), h y (by simp [Op.operands])]

theorem ev_put {s : S} {op : Op} {d : Option Nat} {x : AV} (h : ∀ y ∈ op.operands, ∀ t, d = some t → y ≠ .tmp t) : ∀ y ∈ op.operands, (s.put d x).eval y = s.eval y :=
  fun y hy => S.eval_put_ne s x fun t ht => h y hy t ht

theorem ob_put_fun (s : S) (d : Option Nat) (x : AV) : (s.put d x).ob = s.ob := funext fun i => S.ob_put s d x i

/-! ### Local variables that there are -/

theorem asI_wf {x : AV} {q : IntKind × (Unit → Int)} (h : x.asI = some q) (p : Nat → Bool) : x.wf p = true := by
  cases x <;> simp [AV.asI] at h <;> rfl

theorem cmpA_wf {op : BinOp} {x y r : AV} (h : cmpA op x y = some r) (p : Nat → Bool) : r.wf p = true := by
  unfold cmpA at h
  split at h
  · split at h
    · obtain ⟨z, _, rfl⟩ := Option.map_eq_some_iff.1 h; exact AV.ofB_wf z p
    · cases h
  · split at h
    · split at h
      · unfold cmpS at h
        cases op <;> simp only [reduceCtorEq] at h <;> cases h <;> rfl
      · cases h
    · cases h

theorem boolA_wf {neg : Bool} {x y r : AV} (h : boolA neg x y = some r) (p : Nat → Bool) : r.wf p = true := by
  unfold boolA at h
  split at h <;> first | (cases h; done) | (obtain rfl := Option.some.inj h; cases neg <;> rfl)

theorem eqA_wf {ks : List IntKind} {neg : Bool} {x y : List AV} {r : AV} (h : eqA ks neg x y = some r) (p : Nat → Bool) : r.wf p = true := by
  unfold eqA at h
  split at h
  · split at h
    · cases h; exact AV.ofB_wf _ p
    · cases h; cases neg <;> rfl
  · cases h

theorem binA_wf {op : BinOp} {t : Nat} {x y r : AV} (h : binA T op t x y = some r) (p : Nat → Bool) : r.wf p = true := by
  unfold binA at h
  split at h
  · split at h
    · split at h
      · exact eqA_wf h p
      · exact eqA_wf h p
      · cases h
    · split at h
      · exact boolA_wf h p
      · exact boolA_wf h p
      · unfold nilA at h
        split at h <;> first | (cases h; rfl) | cases h
      · exact cmpA_wf h p
  · split at h
    · split at h
      · obtain ⟨z, _, rfl⟩ := Option.map_eq_some_iff.1 h; rfl
      · cases h
    · cases h

theorem valF_wf {op : Op} {r : AV} (hT : TblOk P T) (hw : s.WF) (h : valF T op s.eval s.ob = some r) : r.wf s.live = true := by
  have W : ∀ x, (s.eval x).wf s.live = true := S.eval_wf hw
  have W' : ∀ {x y}, s.eval x = y → y.wf s.live = true := fun {x y} e => e ▸ W x
  have L : ∀ l : List Operand, AV.wfL s.live (l.map s.eval) = true := fun l => by
    rw [AV.wfL_eq, List.all_eq_true]; intro y hy; obtain ⟨x, _, rfl⟩ := List.mem_map.1 hy; exact W x
  cases op
  case binOp op t x y u => exact binA_wf h _
  case build t parts =>
    simp only [valF] at h
    split at h
    · rename_i i hti
      split at h
      · split at h
        · split at h
          · rename_i l hb
            cases h
            have := buildA_wf s.live _ _ _ hb (zero_wf (hT.ty t i hti) _) (fun q hq => by obtain ⟨p, _, rfl⟩ := List.mem_map.1 hq; exact W p.2)
            split
            · exact this
            · rfl
          · cases h
        · cases h
      · cases h
    · cases h
  case makeFunc fn f g =>
    simp only [valF] at h
    split at h
    · cases h; simp [AV.wf, L]
    · cases h
  case call q =>
    obtain ⟨cal, args, ats⟩ := q
    cases cal with
    | builtin b =>
      cases b <;> try (cases h; done)
      simp only [valF] at h
      split at h
      · split at h
        · cases h; rfl
        · cases h; rfl
        · cases h
      · cases h
    | value f => cases h
    | invoke r m => cases h
  case unOp op t x =>
    cases op <;> simp only [valF, reduceCtorEq] at h
    split at h <;> first | (cases h; done) | (cases h; rfl)
  case move x => simp only [valF, Option.some.injEq] at h; subst h; exact W x
  case assign x => simp only [valF, Option.some.injEq] at h; subst h; exact W x
  case pick q x y => simp only [valF] at h; split at h <;> first | (cases h; done) | (cases h; exact W _)
  case load t x =>
    simp only [valF] at h
    split at h
    · split at h
      · rename_i e U l i hob _
        have hl := hw.objs _ _ _ hob
        split at h
        · split at h
          · cases h
            split
            · simp only [AV.wf]; exact wfL_take _ _ (wfL_drop _ _ hl)
            · rfl
          · cases h
        · exact wfL_get _ hl h
      · cases h
    · cases h
  case fieldAddr t x i =>
    simp only [valF] at h
    split at h
    · split at h
      · rename_i e; split at h
        · cases h
        · cases h; have := W' e; exact this
      · split at h
        · cases h
        · cases h; rfl
      · cases h
    · cases h
  case field t x i =>
    simp only [valF] at h
    split at h
    · split at h
      · rename_i f l hf e
        have hl : AV.wfL s.live l = true := by have := W' e; simpa [AV.wf] using this
        split at h
        · split at h
          · cases h; simp only [AV.wf]; exact wfL_take _ _ (wfL_drop _ _ hl)
          · cases h
        · split at h
          · exact wfL_get _ hl h
          · cases h
      · cases h
    · cases h
  case extract x i =>
    simp only [valF] at h
    split at h
    · rename_i l e
      have hl : AV.wfL s.live l = true := by have := W' e; simpa [AV.wf] using this
      exact wfL_get _ hl h
    · cases h
  case convert src dst x => simp only [valF] at h; split at h <;> first | (cases h; done) | (cases h; rfl)
  case nilCheck x =>
    simp only [valF] at h
    split at h
    · rename_i e; cases h; exact W' e
    · cases h; rfl
    · rename_i e; cases h; exact W' e
    · cases h
  all_goals cases h

/-! ### Allocations, stores, rows -/

theorem alloc_sound (hT : TblOk P T) {o : Oper} {U : Nat} {l : List AV} (h : allocF T o.op s.eval = some (U, l)) (hg : Gam c ρ s a w) :
    ∃ cs, DenL ρ l cs ∧ (execOp a.eval o).run P w = .ok (.value (.pointer (some ⟨w.heap.size, 0, none⟩))) (w.alloc (.cells cs.toArray U (0, 0))) := by
  unfold allocF at h
  unfold execOp
  split at h
  · rename_i t ho
    rw [ho]
    obtain ⟨i, hi, e⟩ := Option.map_eq_some_iff.1 h
    obtain ⟨rfl, rfl⟩ := Prod.mk.inj e
    obtain ⟨z, hz, hzc⟩ := (hT.ty t i hi).run_zeroValue (w := w)
    have hc : z.cells = (AV.denL ρ i.zero).toArray := by rw [zero_den (hT.ty t i hi)]; apply Array.ext'; simpa using hzc
    refine ⟨AV.denL ρ i.zero, DenL.of_den ρ _, ?_⟩
    simp [Instr.alloc, hz, newVar, newRow, hc]
  · rename_i t x ho
    rw [ho]
    obtain ⟨m, hm, e⟩ := Option.map_eq_some_iff.1 h
    obtain ⟨rfl, rfl⟩ := Prod.mk.inj e
    have hc := AV.cellsA_den hm (hg.eval x)
    refine ⟨AV.denL ρ m, DenL.of_den ρ _, ?_⟩
    simp [Instr.box, newVar, newRow, hc]
  · cases h

theorem one_den {x : AV} (h : x.one = true) : (x.den ρ).oneCell' = true := by
  cases x <;> simp [AV.one] at h <;> simp [AV.den, Value.oneCell']

theorem store_sound (hT : TblOk P T) {o : Oper} {i U : Nat} {l' : List AV} (h : storeF T o.op s.eval s.ob = some (i, U, l')) (hg : Gam c ρ s a w) : s.live i = true ∧
    ∃ w' cs', (execOp a.eval o).run P w = .ok .skip w' ∧ DenL ρ l' cs' ∧ w' = { w with heap := w.heap.setIfInBounds (ρ i) (.cells cs'.toArray U (0, 0)) } := by
  unfold storeF at h
  unfold execOp
  split at h
  · rename_i t x y ho
    rw [ho]
    split at h
    · rename_i id off e
      have ex : a.eval x = .pointer (some ⟨ρ id, off, none⟩) := ((hg.eval x).out (by rw [e]; simp)).trans (by rw [e]; rfl)
      split at h
      · rename_i V l ti hob hti
        split at h
        · rename_i m hm
          split at h
          · rename_i hc
            obtain ⟨hc1, hc2, hc3⟩ := hc
            cases h
            obtain ⟨cs, hheap, hd, _⟩ := ob_cell hg hob
            have hty := hT.ty t ti hti
            have hcells := AV.cellsA_den hm (hg.eval y)
            have hml : (AV.denL ρ m).length = m.length := denL_length m
            have hcl := hd.length
            have hst := run_storeCells_at (P := P) (ρ i) off U (AV.denL ρ m) 0 cs.toArray w hheap (by simp; omega) (fun v hv => by
              rw [AV.denL_eq] at hv
              obtain ⟨q, hq, rfl⟩ := List.mem_map.1 hv
              exact one_den (List.all_eq_true.1 hc3 q hq))
            refine ⟨by simp [S.live, hob, Ob.live], _, spliceV cs off (AV.denL ρ m), ?_, hd.splice (DenL.of_den ρ m) off, rfl⟩
            have hset : w.setRow (ρ i) ((cs.toArray.toList.take (off + 0) ++ AV.denL ρ m ++ cs.toArray.toList.drop (off + 0 + (AV.denL ρ m).length)).toArray) =
                { w with heap := w.heap.setIfInBounds (ρ i) (.cells (spliceV cs off (AV.denL ρ m)).toArray U (0, 0)) } := by
              unfold World.setRow
              congr 1
              apply Array.ext_getElem?
              intro j
              rw [Array.getElem?_modify, Array.getElem?_setIfInBounds]
              by_cases hj : ρ i = j
              · subst hj
                have := (Array.getElem?_eq_some_iff.1 hheap).1
                rw [hheap]
                simp [this, spliceV]
              · simp [hj]
            rw [hset] at hst
            have hsz : (a.eval y).cells.size = ti.size := by rw [hcells]; simp [hml, hc1]
            simp [Instr.storeAt, ex, Instr.sureAddr, storeVar, hty.run_sizeOf, hcells, hst, hml, hc1]
          · cases h
        · cases h
      · cases h
    · cases h
  · cases h

theorem new_sound (hT : TblOk P T) {o : Oper} {i : NewI} (h : newF T o.op s.eval = some i) (hs : i.side ()) (hg : Gam c ρ s a w) :
    ∃ ob, i.frag.on (some ob) ∧ (execOp a.eval o).run P w = .ok (.value (i.r w.heap.size).val) (w.alloc ob) := by
  unfold newF at h
  unfold execOp
  split at h
  · rename_i t n parts ho
    rw [ho]
    split at h
    · rename_i e hk
      obtain ⟨ts, hts, hks, hty⟩ := typeInfo_map hT hk
      have hd := tk_slice (hty.kind.trans hks)
      split at h
      · rename_i ti hti
        have hi := hT.ty e ti hti
        split at h
        · rename_i l hl
          split at h
          · rename_i hc
            simp only [Bool.and_eq_true, decide_eq_true_eq] at hc
            obtain ⟨⟨⟨⟨hc1, hc2⟩, hc3⟩, hc4⟩, hc5⟩ := hc
            cases h
            obtain ⟨hfill, hlen⟩ := fill_slice (ρ := ρ) s.eval a.eval hg.eval parts.toList _ l hl
            obtain ⟨ix, iz, hix, hisz, _, hiz, hizc⟩ := hi.info'
            have hzl : ti.zero.length = ti.size ∨ True := .inr trivial
            have hgr : AV.denL ρ l = AV.denL (fun _ => 0) l := AV.denL_congr (p := fun _ => false) (fun i hi => by cases hi) l hc2
            have hzc : iz.cells = (AV.denL ρ ti.zero).toArray := by rw [zero_den hi]; apply Array.ext'; simpa using hizc
            have hparts : (parts.map fun p => (p.1, a.eval p.2)).toList = parts.toList.map fun p => (p.1, a.eval p.2) := by simp
            have hz0 : ti.zero ≠ [] := fun e => by rw [e] at hc5; simp at hc5; omega
            have hrun : (Instr.buildSlice t n (parts.map fun p => (p.1, a.eval p.2))).run P w = .ok (.slice (some ⟨w.heap.size, 0, none⟩) n n) (w.alloc (.cells (AV.denL ρ l).toArray e (0, 0))) := by
              have hm := repL_made (ρ := ρ) n ti.zero hz0
              rw [hc5] at hm
              by_cases hn : n * ti.size = 0
              · have hn0 : n = 0 := by rcases Nat.mul_eq_zero.1 hn with h | h; exact h; exact absurd h hc4
                subst hn0
                simp only [repL, AV.denL] at hfill
                simp only [Instr.buildSlice, Sem.run_bind, run_underlying hd, Result.andThen_ok, hi.run_sizeOf, hparts]
                simp [Array.range_zero', hfill, newRow]
              · have hr : ((Array.range (n * ti.size)).map fun k => iz.cells[k % iz.cells.size]!) = (AV.denL ρ (repL n ti.zero)).toArray := by rw [hm, hzc]; rfl
                have hzv : (zeroValue e).run P w = .ok iz w := by simp [zeroValue, typeInfo, hix, hiz]
                simp only [Instr.buildSlice, Sem.run_bind, run_underlying hd, Result.andThen_ok, hi.run_sizeOf, hparts, hn, if_false]
                simp [newRow, show ¬ (16777216 < n * ti.size) by omega, hzv, hr, hfill]
            refine ⟨.cells (AV.denL ρ l).toArray e (0, 0), ⟨[], by simp [hgr], ?_⟩, ?_⟩
            · simp only [List.append_nil, denL_length]; rw [hlen, repL_length, hc5]
            · simp [hrun, AV.val, AV.den]
          · cases h
        · cases h
      · cases h
    · cases h
  · rename_i t x y ho
    rw [ho]
    split at h
    · rename_i e hk
      obtain ⟨ts, hts, hks, hty⟩ := typeInfo_map hT hk
      have hd := tk_slice (hty.kind.trans hks)
      split at h
      · rename_i ti k1 n k2 m hti hx hy
        cases h
        have hi := hT.ty e ti hti
        obtain ⟨ix, iz, hix, hisz, hib, hiz, hizc⟩ := hi.info'
        obtain ⟨e1, d1⟩ := AV.asI_den (ρ := ρ) hx
        obtain ⟨e2, d2⟩ := AV.asI_den (ρ := ρ) hy
        obtain ⟨s1, s2, s3, s4⟩ := hs
        have hrun := run_make (P := P) w t e ix iz hd hix hiz k1 k2 (n ()) (m ()) s1 s2 (by rw [hib, Int.mul_comm]; exact s3) s4
        have hzc : iz.cells = (AV.denL (fun _ => 0) ti.zero).toArray := by apply Array.ext'; simpa using hizc
        refine ⟨.cells (madeCells iz.cells ((m ()).toNat * ix.size)) e, ⟨[], ?_, ?_⟩, ?_⟩
        · simp [AV.denL, hzc, hisz]
        · simp [AV.denL, size_madeCells]
        · have hx' := ((hg.eval x).out e1).trans d1
          have hy' := ((hg.eval y).out e2).trans d2
          simp [hx', hy', hrun, AV.val, AV.den]
      · cases h
    · cases h
  · cases h

theorem info_ok (hT : TblOk P T) : (info T).Ok P where
  alloc h hg := alloc_sound hT h hg
  alloc_wf {s o U l} h hw := by
    simp only [info] at h
    unfold allocF at h
    split at h
    · obtain ⟨i, hi, e⟩ := Option.map_eq_some_iff.1 h
      obtain ⟨rfl, rfl⟩ := Prod.mk.inj e
      exact zero_wf (hT.ty _ i hi) _
    · obtain ⟨m, hm, e⟩ := Option.map_eq_some_iff.1 h
      obtain ⟨rfl, rfl⟩ := Prod.mk.inj e
      exact AV.cellsA_wf _ hm (S.eval_wf hw _)
    · cases h
  alloc_put h := allocF_congr (ev_put h)
  alloc_M := allocF_congr fun y _ => by cases y <;> rfl
  alloc_ob := allocF_congr fun y _ => by cases y <;> rfl
  store h hg := store_sound hT h hg
  store_wf {s o i U l'} h hw := by
    simp only [info] at h
    unfold storeF at h
    split at h
    · split at h
      · split at h
        · rename_i hob _
          split at h
          · rename_i m hm
            split at h
            · cases h; exact spliceA_wf _ _ (hw.objs _ _ _ hob) (AV.cellsA_wf _ hm (S.eval_wf hw _))
            · cases h
          · cases h
        · cases h
      · cases h
    · cases h
  store_put {s o d x} h := by simp only [info, ob_put_fun]; exact storeF_congr (ev_put h)
  store_M {s o M} := by
    have : (s.withM M).ob = s.ob := rfl
    simp only [info, this]; exact storeF_congr fun y _ => by cases y <;> rfl
  store_ob {s o i U l' j x} h hne := by
    simp only [info] at h ⊢
    have e : storeF T o.op (s.setOb j x).eval (s.setOb j x).ob = storeF T o.op s.eval (s.setOb j x).ob := storeF_congr fun y _ => by cases y <;> rfl
    rw [e]
    unfold storeF at h ⊢
    split at h
    · split at h
      · rename_i id off _
        split at h
        · rename_i V q ti hob hti
          have hid : id = i := by
            split at h
            · split at h
              · cases h; rfl
              · cases h
            · cases h
          subst hid
          rw [S.ob_setOb_ne s x hne, hob, hti]; exact h
        · cases h
      · cases h
    · cases h
  new h hs hg := new_sound hT h hs hg
  new_r {s o i} h b := by
    simp only [info] at h
    unfold newF at h
    split at h
    · split at h
      · split at h
        · split at h
          · split at h
            · cases h; rfl
            · cases h
          · cases h
        · cases h
      · cases h
    · split at h
      · split at h
        · cases h; rfl
        · cases h
      · cases h
    · cases h
  new_put h := newF_congr (ev_put h)
  new_M := newF_congr fun y _ => by cases y <;> rfl
  new_ob := newF_congr fun y _ => by cases y <;> rfl
  val h := fun ρ a w hg => val_sound hT h hg
  val_wf h hw := valF_wf hT hw h
  val_put {s o d x} h := by simp only [info, ob_put_fun]; exact valF_congr (ev_put h)
  val_M {s o M} := by
    have : (s.withM M).ob = s.ob := rfl
    simp only [info, this]; exact valF_congr fun y _ => by cases y <;> rfl
  val_pure {s o j x} h := by
    simp only [info]
    have e : valF T o.op (s.setOb j x).eval (s.setOb j x).ob = valF T o.op s.eval (s.setOb j x).ob := valF_congr fun y _ => by cases y <;> rfl
    rw [e]
    unfold noLoad at h
    cases hop : o.op
    case load => rw [hop] at h; cases h
    case unOp u _ _ => cases u <;> rfl
    case call q =>
      obtain ⟨callee, args, ats⟩ := q
      cases callee
      case builtin b => cases b <;> rfl
      all_goals rfl
    all_goals rfl
  val_ob {s o r j x} h hj := by
    simp only [info] at h ⊢
    have e : valF T o.op (s.setOb j x).eval (s.setOb j x).ob = valF T o.op s.eval (s.setOb j x).ob := valF_congr fun y _ => by cases y <;> rfl
    rw [e]
    cases hop : o.op
    case load t y =>
      rw [hop] at h
      simp only [valF] at h ⊢
      split at h
      · rename_i id off he
        split at h
        · rename_i V q ti hob hti
          have hne : j ≠ id := fun e => by subst e; rw [hj] at hob; cases hob
          rw [S.ob_setOb_ne s x hne, hob, hti]; exact h
        · cases h
      · cases h
    case call q =>
      rw [hop] at h
      obtain ⟨cal, args, ats⟩ := q
      cases cal with
      | builtin b => cases b <;> exact h
      | value f => exact h
      | invoke r m => exact h
    case unOp op t y => rw [hop] at h; cases op <;> exact h
    all_goals (rw [hop] at h; exact h)

end
end Go.SX
