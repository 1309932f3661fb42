/- In a region that draws its order one order serves all: which operations may change places. -/
import Derived.Test.YtojdihbanakhgaaSxB
namespace Go.SX

section
variable {P : Program} {I : Info} {c : Ct} {ops : Array Oper}

/-- The three ways in which two operations keep off each other's temporaries. -/
structure Apart (ops : Array Oper) (x y : Oper) : Prop where
  a : ∀ d, x.dst = some d → d ∉ y.looksAt ops
  b : ∀ d, x.dst = some d → y.dst ≠ some d
  c : ∀ d, y.dst = some d → d ∉ x.looksAt ops

theorem Apart.of {x y : Oper} (h : x.apart ops y = true) : Apart ops x y := ⟨(Oper.apart_spec h).1, (Oper.apart_spec h).2.1, (Oper.apart_spec h).2.2⟩

theorem looks_op {o : Oper} {d : Option Nat} (h : ∀ t, d = some t → t ∉ o.looksAt ops) : ∀ y ∈ o.op.operands, ∀ t, d = some t → y ≠ .tmp t := by
  intro y hy t ht e
  subst e
  exact h t ht (List.mem_append_left _ (List.mem_filterMap.2 ⟨.tmp t, by simpa using hy, rfl⟩))

theorem guardV_put {o : Oper} {s : S} {d : Option Nat} {x : AV} (h : ∀ t, d = some t → t ∉ o.looksAt ops) : guardV ops o (s.put d x) = guardV ops o s := by
  unfold guardV
  cases hg : o.guard with
  | none => rfl
  | some p =>
    obtain ⟨j, want⟩ := p
    simp only
    cases ht : (ops[j]?).bind (·.dst) with
    | none => rfl
    | some t =>
      simp only
      rw [S.get_put_ne]
      intro e
      exact h t e (by simp [Oper.looksAt, hg, ht])

theorem Gam.ne {ρ : Nat → Nat} {s : S} {a : Act} {w : World} (h : Gam c ρ s a w) : gamNE c s := ⟨ρ, a, w, h⟩
theorem gamNE.put {s : S} (h : gamNE c s) (d : Option Nat) (x : AV) : gamNE c (s.put d x) := let ⟨ρ, _, w, hg⟩ := h; ⟨ρ, _, w, hg.put (.inr rfl) d⟩
theorem gamNE.unput {s : S} {d : Option Nat} {x : AV} (h : gamNE c (s.put d x)) : gamNE c s := let ⟨ρ, _, w, hg⟩ := h; let ⟨_, hg'⟩ := hg.unput; ⟨ρ, _, w, hg'⟩
theorem gamNE.weak {s s' : S} (h : gamNE c s) (hw : s'.Weak s) : gamNE c s' := let ⟨ρ, a, w, hg⟩ := h; ⟨ρ, a, w, hg.weak hw⟩
theorem S.Weak.withM {s : S} {M : Mem} (h : s.M.le M) : s.Weak (s.withM M) := ⟨rfl, fun _ => .inr rfl, h⟩
theorem S.Weak.setOb {s : S} {d : Nat} (x : Ob) (h : s.ob d = .none) : s.Weak (s.setOb d x) := by
  refine ⟨rfl, fun i => ?_, Mem.le_refl _⟩
  by_cases e : d = i
  · subst e; exact .inl h
  · exact .inr (S.ob_setOb_ne s x e).symm


theorem execOp_put' {o : Oper} (hs : ∀ cs b, o.op ≠ .select cs b) (a : Act) {d : Option Nat} (v : Value) (h : ∀ t, d = some t → t ∉ o.looksAt ops) :
    execOp (a.put d v).eval o = execOp a.eval o := execOp_put o hs a d v h

theorem Reads.put {o : Oper} (hs : ∀ cs b, o.op ≠ .select cs b) {d : Option Nat} (hd : ∀ t, d = some t → t ∉ o.looksAt ops) {s : S} {x r : AV} : Reads P c o (s.put d x) r ↔ Reads P c o s r := by
  constructor
  · intro h ρ a w hg
    have := h ρ (a.put d (x.den ρ)) w (hg.put (.inr rfl) d)
    rwa [execOp_put' hs a _ hd] at this
  · intro h ρ a w hg
    obtain ⟨v, hg'⟩ := hg.unput
    have := h ρ _ w hg'
    rwa [execOp_put' hs a _ hd] at this

theorem Reads.weak {o : Oper} {s s' : S} {r : AV} (h : Reads P c o s' r) (hw : s'.Weak s) : Reads P c o s r := fun ρ a w hg => h ρ a w (hg.weak hw)

theorem Effs.put {o : Oper} (hs : ∀ cs b, o.op ≠ .select cs b) {d : Option Nat} (hd : ∀ t, d = some t → t ∉ o.looksAt ops) {s : S} {x : AV} {up : Bool} {k : Mem → AV → Prop} : Effs P c up o (s.put d x) k ↔ Effs P c up o s k := by
  constructor
  · intro h ρ a w hg
    have := h ρ (a.put d (x.den ρ)) w (hg.put (.inr rfl) d)
    rwa [execOp_put' hs a _ hd, S.M_put] at this
  · intro h ρ a w hg
    obtain ⟨v, hg'⟩ := hg.unput
    have := h ρ _ w hg'
    rw [S.M_put]
    rwa [execOp_put' hs a _ hd] at this

theorem Effs.mono {up : Bool} {o : Oper} {s : S} {k k' : Mem → AV → Prop} (h : Effs P c up o s k)
    (hk : ∀ M' r ρ a w w', Gam c ρ s a w → Grow c up s.M w M' w' → r.ground = true → k M' r → k' M' r) : Effs P c up o s k' := fun ρ a w hg =>
  (h ρ a w hg).mono fun _ _ ⟨M', r, hv, hr, hgr, hk'⟩ => ⟨M', r, hv, hr, hgr, hk M' r ρ a w _ hg hgr hr hk'⟩

theorem Upds.put {o : Oper} (hs : ∀ cs b, o.op ≠ .select cs b) {d : Option Nat} (hd : ∀ t, d = some t → t ∉ o.looksAt ops) {s : S} {x : AV} {M' : Mem} : Upds P c o (s.put d x) M' ↔ Upds P c o s M' := by
  constructor
  · intro h ρ a w hg
    have := h ρ (a.put d (x.den ρ)) w (hg.put (.inr rfl) d)
    rwa [execOp_put' hs a _ hd, S.M_put] at this
  · intro h ρ a w hg
    obtain ⟨v, hg'⟩ := hg.unput
    have := h ρ _ w hg'
    rw [S.M_put]
    rwa [execOp_put' hs a _ hd] at this

theorem S.WF.alloc' {s : S} (hI : I.Ok P) (hwf : s.WF) {o : Oper} {d T : Nat} {l : List AV} (hal : I.alloc o s = some (T, l)) (hlt : d < s.objs.length) : ((s.setOb d (.cells T l)).put (some d) (.ptr d 0)).WF :=
  hwf.alloc hlt (hI.alloc_wf hal hwf)

theorem gamNE.alloc {s : S} (hI : I.Ok P) (h : gamNE c s) (hwf : s.WF) {o : Oper} {d T : Nat} {l : List AV} (hal : I.alloc o s = some (T, l)) (hd : s.ob d = .none) (hlt : d < s.objs.length) :
    gamNE c ((s.setOb d (.cells T l)).put (some d) (.ptr d 0)) := by
  obtain ⟨ρ, a, w, hg⟩ := h
  obtain ⟨cs, hl, _⟩ := hI.alloc hal hg
  exact ⟨_, _, _, hg.alloc hwf hd hlt hl (hI.alloc_wf hal hwf)⟩

theorem gamNE.store {s : S} (hI : I.Ok P) (h : gamNE c s) {o : Oper} {i T : Nat} {l' : List AV} (hst : I.store o s = some (i, T, l')) : gamNE c (s.setOb i (.cells T l')) := by
  obtain ⟨ρ, a, w, hg⟩ := h
  obtain ⟨hlv, w', cs', _, hl, rfl⟩ := hI.store hst hg
  exact ⟨_, _, _, hg.store hlv hl⟩

theorem Info.Ok.store_live (hI : I.Ok P) {s : S} (h : gamNE c s) {o : Oper} {i T : Nat} {l' : List AV} (hst : I.store o s = some (i, T, l')) : s.live i = true := by
  obtain ⟨ρ, a, w, hg⟩ := h
  exact (hI.store hst hg).1

/-- How a write to a temporary at which an operation does not look goes past it. -/
theorem TT.push (hI : I.Ok P) {m : Md} {o : Oper} (hs : ∀ cs b, o.op ≠ .select cs b) {d : Option Nat} {x : AV} (h1 : ∀ t, d = some t → t ∉ o.looksAt ops) (h2 : ∀ t, d = some t → o.dst ≠ some t)
    {K : S → Prop} {s : S} (hw : s.WF) : TT P I c m o K (s.put d x) ↔ TT P I c m o (fun s' => G c K (s'.put d x)) s := by
  have hop := looks_op h1
  have hcm : ∀ (s' : S) (y : AV), (s'.put o.dst y).put d x = (s'.put d x).put o.dst y := fun s' y => (S.put_put_comm s' x y h2).symm
  unfold TT
  cases hk : kd o <;> simp only
  · constructor
    · rintro ⟨r, hr, hrd, hdet, hK⟩
      refine ⟨r, by simpa [S.drop_put, S.live_put] using hr, ?_, fun e => by rw [← hI.val_put hop]; exact hdet e, ?_⟩
      · rw [S.drop_put] at hrd; exact (Reads.put hs h1).1 hrd
      · intro _ _
        rw [hcm]; exact hK
    · rintro ⟨r, hr, hrd, hdet, hK⟩
      refine ⟨r, by simpa [S.drop_put, S.live_put] using hr, ?_, fun e => by rw [hI.val_put hop]; exact hdet e, ?_⟩
      · rw [S.drop_put]; exact (Reads.put hs h1).2 hrd
      · intro hne hwf
        have h0 : gamNE c (s.put o.dst r) := by rw [← hcm] at hne; exact hne.unput
        have := hK h0 (hw.put (AV.wf_mono (fun _ => S.live_of_drop) _ hr) _)
        dsimp only at this
        rw [hcm] at this
        exact this hne hwf
  · unfold TE
    rw [Effs.put hs h1]
    constructor
    · intro h
      refine h.mono fun M' r ρ a w w' hg hgr hr hk' => ?_
      intro _ _
      rw [hcm]
      have : (s.put d x).withM M' = (s.withM M').put d x := (S.put_withM s d x M').symm
      rw [this] at hk'
      exact hk'
    · intro h
      refine h.mono fun M' r ρ a w w' hg hgr hr hk' => ?_
      have h0 := hk' ⟨_, _, _, (hg.grow hgr).put (Den.of_ground hr ρ) _⟩ ((hw.withM M').put (AV.ground_wf hr _) _)
      dsimp only at h0
      rw [hcm] at h0
      have : (s.put d x).withM M' = (s.withM M').put d x := (S.put_withM s d x M').symm
      rw [this]
      exact h0
  · unfold TN
    rw [hI.new_put hop, S.M_put]
    constructor
    · rintro ⟨i, hi, hsd, hK⟩
      refine ⟨i, hi, hsd, fun b hb hB => ?_⟩
      intro _ _
      rw [hcm]
      have := hK b hb hB
      have e : (s.put d x).withM (s.M.set b i.frag) = (s.withM (s.M.set b i.frag)).put d x := (S.put_withM s d x _).symm
      rwa [e] at this
    · rintro ⟨i, hi, hsd, hK⟩
      refine ⟨i, hi, hsd, fun b hb hB => ?_⟩
      have e : (s.put d x).withM (s.M.set b i.frag) = (s.withM (s.M.set b i.frag)).put d x := (S.put_withM s d x _).symm
      rw [e]
      intro hne hwf
      have h0 : gamNE c ((s.withM (s.M.set b i.frag)).put o.dst (i.r b)) := by rw [← hcm] at hne; exact hne.unput
      have := hK b hb hB h0 ((hw.withM _).put (AV.ground_wf (hI.new_r hi b) _) _)
      dsimp only at this
      rw [hcm] at this
      exact this hne hwf
  · unfold TF
    rw [hI.alloc_put hop]
    constructor
    · rintro ⟨e, T, l, he, hal, hob, hlt, hK⟩
      rw [S.ob_put] at hob
      rw [S.objs_put] at hlt
      refine ⟨e, T, l, he, hal, hob, hlt, ?_⟩
      intro _ _
      rw [← he, hcm, S.put_setOb, he]; exact hK
    · rintro ⟨e, T, l, he, hal, hob, hlt, hK⟩
      refine ⟨e, T, l, he, hal, by rw [S.ob_put]; exact hob, by rw [S.objs_put]; exact hlt, ?_⟩
      intro hne hwf
      have eq : ((s.put d x).setOb e (.cells T l)).put (some e) (.ptr e 0) = ((s.setOb e (.cells T l)).put (some e) (.ptr e 0)).put d x := by
        rw [← S.put_setOb, ← he, hcm]
      rw [eq] at hne hwf ⊢
      exact hK hne.unput (hw.alloc' hI hal hlt) hne hwf
  · unfold TW
    rw [hI.store_put hop]
    constructor
    · rintro (⟨M', he, hsp, hup, hK⟩ | ⟨i, T, l', he, hst, hav, hK⟩)
      · refine .inl ⟨M', he, hsp, (Upds.put hs h1).1 hup, fun _ _ => ?_⟩
        dsimp only
        rw [S.put_withM]
        exact hK
      refine .inr ⟨i, T, l', he, hst, hav, ?_⟩
      intro _ _
      rw [S.put_setOb]; exact hK
    · rintro (⟨M', he, hsp, hup, hK⟩ | ⟨i, T, l', he, hst, hav, hK⟩)
      · refine .inl ⟨M', he, hsp, (Upds.put hs h1).2 hup, fun hne hwf => ?_⟩
        rw [← S.put_withM] at hne hwf ⊢
        exact hK hne.unput (hw.withM M') hne hwf
      refine .inr ⟨i, T, l', he, hst, hav, ?_⟩
      intro hne hwf
      have eq : (s.put d x).setOb i (.cells T l') = (s.setOb i (.cells T l')).put d x := (S.put_setOb ..).symm
      rw [eq] at hne hwf ⊢
      exact hK hne.unput (hw.store (hI.store_wf hst hw)) hne hwf

theorem G.mono {K K' : S → Prop} {s : S} (h : gamNE c s → s.WF → K s → K' s) (hk : G c K s) : G c K' s := fun a b => h a b (hk a b)

/-- What is as it was behind an operation. -/
structure Kept (o : Oper) (s s' : S) : Prop where
  get : ∀ t, o.dst ≠ some t → s'.get t = s.get t
  live : ∀ i, s.live i = true → s'.live i = true

theorem Kept.guard {o o' : Oper} {s s' : S} (h : Kept o s s') (hd : ∀ t, o.dst = some t → t ∉ o'.looksAt ops) : guardV ops o' s' = guardV ops o' s := by
  unfold guardV
  cases hg : o'.guard with
  | none => rfl
  | some p =>
    obtain ⟨j, want⟩ := p
    simp only
    cases ht : (ops[j]?).bind (·.dst) with
    | none => rfl
    | some t =>
      simp only
      rw [h.get t fun e => hd t e (by simp [Oper.looksAt, hg, ht])]

theorem Kept.put (o : Oper) (s : S) (x : AV) : Kept o s (s.put o.dst x) := ⟨fun _ h => S.get_put_ne s x h, fun _ h => by rw [S.live_put]; exact h⟩
theorem Kept.trans {o : Oper} {s s' s'' : S} (h : Kept o s s') (h' : Kept o s' s'') : Kept o s s'' := ⟨fun t e => (h'.get t e).trans (h.get t e), fun i e => h'.live i (h.live i e)⟩
theorem Kept.withM (o : Oper) (s : S) (M : Mem) : Kept o s (s.withM M) := ⟨fun _ _ => rfl, fun _ h => h⟩
theorem Kept.setOb (o : Oper) (s : S) (i T : Nat) (l : List AV) : Kept o s (s.setOb i (.cells T l)) := ⟨fun _ _ => rfl, fun j h => by
  unfold S.live at *
  rw [S.ob_setOb]
  split
  · rfl
  · exact h⟩

theorem TT.mono {m : Md} {o : Oper} {K K' : S → Prop} {s : S} (hk : ∀ s', gamNE c s' → s'.WF → Kept o s s' → K s' → K' s') (h : TT P I c m o K s) : TT P I c m o K' s := by
  unfold TT at *
  cases e : kd o <;> simp only [e] at h ⊢
  · obtain ⟨r, h1, h2, h3, h5⟩ := h
    exact ⟨r, h1, h2, h3, h5.mono fun a b => hk _ a b (Kept.put ..)⟩
  · exact Effs.mono h fun M' r _ _ _ _ _ _ _ hk' => hk'.mono fun a b => hk _ a b ((Kept.withM ..).trans (Kept.put ..))
  · obtain ⟨i, h1, h2, h3⟩ := h
    exact ⟨i, h1, h2, fun b hb hB => (h3 b hb hB).mono fun x y => hk _ x y ((Kept.withM ..).trans (Kept.put ..))⟩
  · obtain ⟨d, T, l, h1, h2, h3, h4, h5⟩ := h
    exact ⟨d, T, l, h1, h2, h3, h4, h5.mono fun x y => hk _ x y (by rw [← h1]; exact (Kept.setOb ..).trans (Kept.put ..))⟩
  · rcases h with ⟨M', h1, h2, h3, h4⟩ | ⟨i, T, l', h1, h2, h3, h4⟩
    · exact .inl ⟨M', h1, h2, h3, h4.mono fun x y => hk _ x y (Kept.withM ..)⟩
    · exact .inr ⟨i, T, l', h1, h2, h3, h4.mono fun x y => hk _ x y (Kept.setOb ..)⟩

theorem TG.mono {m : Md} {o : Oper} {K K' : S → Prop} {s : S} (hk : ∀ s', gamNE c s' → s'.WF → Kept o s s' → K s' → K' s') (h : TG P I c ops m o K s) : TG P I c ops m o K' s := by
  unfold TG at *
  split
  · rename_i e; rw [e] at h; exact TT.mono hk h
  · rename_i e; rw [e] at h; exact h.mono fun x y => hk _ x y (Kept.put ..)
  · rename_i e; rw [e] at h; exact h

/-- What an operation that only reads has at hand. -/
structure RInfo (P : Program) (I : Info) (c : Ct) (m : Md) (o : Oper) (r : AV) (s : S) : Prop where
  wf : r.wf (s.drop m.avoid).live = true
  rd : Reads P c o (s.drop m.avoid) r
  det : m.det = true → I.val o s = some r

theorem S.Weak.refl (s : S) : s.Weak s := ⟨rfl, fun _ => .inr rfl, Mem.le_refl _⟩

theorem TT.after (hI : I.Ok P) {mi mj : Md} {oi oj : Oper} (hsi : ∀ cs b, oi.op ≠ .select cs b) {r : AV}
    (hd : ∀ t, oj.dst = some t → t ∉ oi.looksAt ops)
    (hst : kd oj = .w → (mi.det = false ∧ mj.avoid ≠ [] ∧ ∀ i ∈ mj.avoid, i ∈ mi.avoid) ∨ (mi.det = true ∧ mi.avoid = [] ∧ noLoad oi = true)) (hup : mj.upd = false ∨ (mi.det = true ∧ mi.avoid = [])) {K : S → Prop} {s : S} (hr : RInfo P I c mi oi r s) (h : TT P I c mj oj K s) :
    TT P I c mj oj (fun s' => K s' ∧ RInfo P I c mi oi r s') s := by
  have hop := looks_op hd
  have wfk : ∀ s', Kept oj s s' → r.wf (s'.drop mi.avoid).live = true := fun s' hk => AV.wf_mono (fun i hi => by
    rw [S.drop_live] at hi ⊢
    simp only [Bool.and_eq_true] at hi ⊢
    exact ⟨hi.1, hk.live i hi.2⟩) r hr.wf
  unfold TT at *
  cases e : kd oj <;> simp only [e] at h ⊢
  · obtain ⟨r', h1, h2, h3, h5⟩ := h
    refine ⟨r', h1, h2, h3, h5.mono fun _ _ hK => ⟨hK, wfk _ (Kept.put ..), ?_, fun x => by rw [hI.val_put hop]; exact hr.det x⟩⟩
    rw [S.drop_put]; exact (Reads.put hsi hd).2 hr.rd
  · refine Effs.mono h fun M' x ρ a w w' hg hgr _ hk' => hk'.mono fun _ _ hK => ⟨hK, wfk _ ((Kept.withM ..).trans (Kept.put ..)), ?_, fun y => by rw [hI.val_put hop, hI.val_M]; exact hr.det y⟩
    rcases hup with hup | ⟨hdet, hae⟩
    · rw [S.drop_put, S.drop_withM]
      exact (Reads.put hsi hd).2 (hr.rd.weak (.withM (by rw [S.drop_M]; exact hgr.le hup)))
    · rw [hae]
      exact (Reads.put hsi hd).2 (hI.val (by show I.val oi (s.withM M') = _; rw [hI.val_M]; exact hr.det hdet))
  · obtain ⟨i, h1, h2, h3⟩ := h
    refine ⟨i, h1, h2, fun b hb hB => (h3 b hb hB).mono fun _ _ hK => ⟨hK, wfk _ ((Kept.withM ..).trans (Kept.put ..)), ?_, fun y => by rw [hI.val_put hop, hI.val_M]; exact hr.det y⟩⟩
    rw [S.drop_put, S.drop_withM]
    exact (Reads.put hsi hd).2 (hr.rd.weak (.withM (by rw [S.drop_M]; exact Mem.le_set hb)))
  · obtain ⟨d, T, l, h1, h2, h3, h4, h5⟩ := h
    have hkp : Kept oj s ((s.setOb d (.cells T l)).put (some d) (.ptr d 0)) := by rw [← h1]; exact (Kept.setOb ..).trans (Kept.put ..)
    refine ⟨d, T, l, h1, h2, h3, h4, h5.mono fun _ _ hK => ⟨hK, wfk _ hkp, ?_, fun y => ?_⟩⟩
    · rw [S.drop_put, ← h1]
      refine (Reads.put hsi hd).2 (hr.rd.weak ⟨by rw [S.drop_tmps, S.drop_tmps]; rfl, fun j => ?_, by rw [S.drop_M, S.drop_M]; exact Mem.le_refl _⟩)
      rw [S.drop_ob, S.drop_ob]
      by_cases k : j ∈ mi.avoid
      · simp [k]
      · simp only [k, if_false]
        by_cases ej : d = j
        · subst ej; exact .inl h3
        · right; rw [S.ob_setOb_ne s _ ej]
    · rw [← h1, hI.val_put hop]; exact hI.val_ob (hr.det y) h3
  · rcases hst e with ⟨hs1, hs2, hs3⟩ | ⟨hs1, hs2, hs3⟩
    case inr =>
      have hv := hr.det hs1
      have hdr : ∀ (l : List Nat) (s' : S), I.val oi (s'.drop l) = I.val oi s' := fun l => by
        induction l with
        | nil => intro s'; rfl
        | cons j l ih => intro s'; unfold S.drop at ih ⊢; simp only [List.foldl_cons]; rw [ih, hI.val_pure hs3]
      rcases h with ⟨M', h1, h2, h3, h4⟩ | ⟨i, T, l', h1, h2, h3, h4⟩
      · refine .inl ⟨M', h1, h2, h3, h4.mono fun _ _ hK => ⟨hK, wfk _ (Kept.withM ..), hI.val (by rw [hdr, hI.val_M]; exact hv), fun _ => by rw [hI.val_M]; exact hv⟩⟩
      · refine .inr ⟨i, T, l', h1, h2, h3, h4.mono fun _ _ hK => ⟨hK, wfk _ (Kept.setOb ..), hI.val (by rw [hdr, hI.val_pure hs3]; exact hv), fun _ => by rw [hI.val_pure hs3]; exact hv⟩⟩
    rcases h with ⟨M', h1, h2, h3, h4⟩ | ⟨i, T, l', h1, h2, h3, h4⟩
    · exact absurd h2 hs2
    have hi : i ∈ mi.avoid := hs3 i (h3 hs2)
    refine .inr ⟨i, T, l', h1, h2, h3, h4.mono fun _ _ hK => ⟨hK, wfk _ (Kept.setOb ..), ?_, fun y => (by rw [hs1] at y; cases y)⟩⟩
    refine hr.rd.weak ⟨by rw [S.drop_tmps, S.drop_tmps]; rfl, fun j => ?_, by rw [S.drop_M, S.drop_M]; exact Mem.le_refl _⟩
    rw [S.drop_ob, S.drop_ob]
    by_cases k : j ∈ mi.avoid
    · simp [k]
    · simp only [k, if_false]
      right
      rw [S.ob_setOb_ne s _ (fun (e : i = j) => k (e ▸ hi))]

/-- An operation whose value is known takes its place at the state. -/
theorem RInfo.step {m : Md} {o : Oper} {r : AV} {s : S} {K : S → Prop} (hk : kd o = .r) (hr : RInfo P I c m o r s) (h : G c K (s.put o.dst r)) : TT P I c m o K s := by
  unfold TT
  simp only [hk]
  exact ⟨r, hr.wf, hr.rd, hr.det, h⟩

theorem gamNE.act {s : S} (h : gamNE c s) {o : Oper} {up : Bool} {k : Mem → AV → Prop} (he : Effs P c up o s k) : ∃ M' r, gamNE c ((s.withM M').put o.dst r) ∧ r.ground = true ∧ k M' r := by
  obtain ⟨ρ, a, w, hg⟩ := h
  obtain ⟨v, w', M', r, rfl, hr, hgr, hk⟩ := (he ρ a w hg).exists
  exact ⟨M', r, ⟨_, _, _, (hg.grow hgr).put (Den.of_ground hr ρ) _⟩, hr, hk⟩

theorem gamNE.new {s : S} (hI : I.Ok P) (h : gamNE c s) {o : Oper} {i : NewI} (hi : I.new o s = some i) (hs : i.side ()) :
    ∃ b, s.M b = none ∧ c.B0 ≤ b ∧ gamNE c ((s.withM (s.M.set b i.frag)).put o.dst (i.r b)) := by
  obtain ⟨ρ, a, w, hg⟩ := h
  obtain ⟨ob, hob, _⟩ := hI.new hi hs hg
  exact ⟨w.heap.size, hg.fresh, by simpa [Ct.B0] using hg.fr.size, ⟨_, _, _, (hg.grow (Grow.alloc hg.mem hg.fresh hob (frozAt_row hob))).put (Den.of_ground (hI.new_r hi _) ρ) _⟩⟩

/-- Which operations may change places: 'i' first in the one order, 'j' first in the other. -/
def swapOk (ops : Array Oper) (mi mj : Md) (oi oj : Oper) : Bool :=
  oi.apart ops oj &&
  match kd oi, kd oj with
  | .r, .r | .r, .n | .r, .f => true
  | .r, .e => !mj.upd || (mi.det && mi.avoid.isEmpty)
  | .r, .w => (!mi.det && !mj.avoid.isEmpty && mj.avoid.all mi.avoid.contains) || (mi.det && mi.avoid.isEmpty && noLoad oi)
  | .e, .r | .n, .r => mj.det && mj.avoid.isEmpty
  | .e, .n => !mi.upd
  | .f, .r => !mj.det && oi.dst.any mj.avoid.contains
  | .e, .f | .n, .n | .n, .f | .w, .f | .f, .f | .f, .n => true
  | _, _ => false

theorem swap_ef (hI : I.Ok P) {mi mj : Md} {oi oj : Oper} (hsi : ∀ cs b, oi.op ≠ .select cs b) (hap : Apart ops oi oj) (hi : kd oi = .e) (hj : kd oj = .f) {K : S → Prop} {s : S} (hne : gamNE c s) (hw : s.WF)
    (h : TT P I c mi oi (TT P I c mj oj K) s) : TT P I c mj oj (TT P I c mi oi K) s := by
  have hopj := looks_op hap.a
  unfold TT at h ⊢
  simp only [hi, hj] at h ⊢
  have key : ∀ M' r, gamNE c ((s.withM M').put oi.dst r) → r.ground = true → G c (TT P I c mj oj K) ((s.withM M').put oi.dst r) →
      ∃ d T l, oj.dst = some d ∧ I.alloc oj s = some (T, l) ∧ s.ob d = .none ∧ d < s.objs.length ∧ G c K ((((s.withM M').put oi.dst r).setOb d (.cells T l)).put (some d) (.ptr d 0)) := fun M' r hn hr hG => by
    have := hG hn ((hw.withM M').put (AV.ground_wf hr _) _)
    unfold TT at this
    simp only [hj] at this
    obtain ⟨d, T, l, h1, h2, h3, h4, h5⟩ := this
    rw [hI.alloc_put hopj, hI.alloc_M] at h2
    exact ⟨d, T, l, h1, h2, by rw [S.ob_put] at h3; exact h3, by rw [S.objs_put] at h4; exact h4, h5⟩
  have h' : Effs P c mi.upd oi s fun M' r => G c (TT P I c mj oj K) ((s.withM M').put oi.dst r) := by
    refine h.mono fun M' r _ _ _ _ _ _ _ hk => ?_
    refine hk.mono fun _ _ hk => ?_
    unfold TT; simp only [hj]; exact hk
  obtain ⟨M0, r0, hn0, hr0, hG0⟩ := hne.act h'
  obtain ⟨d, T, l, h1, h2, h3, h4, _⟩ := key M0 r0 hn0 hr0 hG0
  refine ⟨d, T, l, h1, h2, h3, h4, fun hneF hwF => ?_⟩
  unfold TE
  rw [← h1] at hneF hwF ⊢
  rw [Effs.put hsi hap.c]
  have h2w : Effs P c mi.upd oi (s.setOb d (.cells T l)) fun M' r => G c (TT P I c mj oj K) ((s.withM M').put oi.dst r) ∧ gamNE c ((s.withM M').put oi.dst r) ∧ r.ground = true := by
    have hweak := S.Weak.setOb (.cells T l) h3
    intro ρ a w hg
    refine (h' ρ a w (hg.weak hweak)).mono ?_
    rintro v w' ⟨M', r, hv, hr, hgr, hk⟩
    exact ⟨M', r, hv, hr, hgr, hk, ⟨_, _, _, ((hg.weak hweak).grow hgr).put (Den.of_ground hr ρ) _⟩, hr⟩
  refine h2w.mono fun M' r ρ a w w' hg hgr hr hk => ?_
  obtain ⟨d', T', l', k1, k2, _, _, k5⟩ := key M' r hk.2.1 hk.2.2 hk.1
  rw [h1] at k1; cases k1
  rw [h2] at k2; cases k2
  have eq : (((s.withM M').put oi.dst r).setOb d (.cells T l)).put (some d) (.ptr d 0) = (((s.setOb d (.cells T l)).put oj.dst (.ptr d 0)).withM M').put oi.dst r := by
    rw [← S.put_setOb, S.setOb_withM, ← h1, S.put_put_comm _ _ _ hap.b, S.put_withM]
  rw [← eq]; exact k5

theorem swap_en (hI : I.Ok P) {mi mj : Md} (hmi : mi.upd = false) {oi oj : Oper} (hsi : ∀ cs b, oi.op ≠ .select cs b) (hap : Apart ops oi oj) (hi : kd oi = .e) (hj : kd oj = .n) {K : S → Prop} {s : S} (hne : gamNE c s) (hw : s.WF)
    (h : TT P I c mi oi (TT P I c mj oj K) s) : TT P I c mj oj (TT P I c mi oi K) s := by
  have hopj := looks_op hap.a
  unfold TT at h ⊢
  simp only [hi, hj] at h ⊢
  have h' : Effs P c mi.upd oi s fun M' r => G c (TT P I c mj oj K) ((s.withM M').put oi.dst r) := by
    refine h.mono fun M' r _ _ _ _ _ _ _ hk => ?_
    refine hk.mono fun _ _ hk => ?_
    unfold TT; simp only [hj]; exact hk
  have key : ∀ M' r, gamNE c ((s.withM M').put oi.dst r) → r.ground = true → G c (TT P I c mj oj K) ((s.withM M').put oi.dst r) →
      ∃ i, I.new oj s = some i ∧ i.side () ∧ ∀ b, M' b = none → c.B0 ≤ b → G c K ((((s.withM M').put oi.dst r).withM (M'.set b i.frag)).put oj.dst (i.r b)) := fun M' r hn hr hG => by
    have := hG hn ((hw.withM M').put (AV.ground_wf hr _) _)
    unfold TT at this
    simp only [hj] at this
    obtain ⟨i, h1, h2, h3⟩ := this
    rw [hI.new_put hopj, hI.new_M] at h1
    rw [S.M_put] at h3
    exact ⟨i, h1, h2, h3⟩
  obtain ⟨M0, r0, hn0, hr0, hG0⟩ := hne.act h'
  obtain ⟨i, h1, h2, _⟩ := key M0 r0 hn0 hr0 hG0
  refine ⟨i, h1, h2, fun b hb hB hneF hwF => ?_⟩
  unfold TE
  dsimp only
  rw [Effs.put hsi hap.c]
  intro ρ a w hg
  have hlt : b < w.heap.size := by
    have := hg.mem b i.frag (by simp [S.withM, Mem.set])
    rcases Nat.lt_or_ge b w.heap.size with h' | h'
    · exact h'
    · rw [Array.getElem?_eq_none h'] at this
      simp [NewI.frag, Frag.on] at this
  have hg0 : Gam c ρ s a w := hg.weak (.withM (Mem.le_set hb))
  refine (h' ρ a w hg0).mono ?_
  rintro v w' ⟨M', r, hv, hr, hgr, hk⟩
  have hMb : M' b = none := by
    cases hm : M' b with
    | none => rfl
    | some f =>
      rcases hgr.fresh b (by simp [hm]) with e | e
      · exact absurd hb e
      · omega
  have hgr' : Grow c mi.upd (s.M.set b i.frag) w (M'.set b i.frag) w' := by
    refine ⟨fun _ => Mem.set_le_set (hgr.le hmi) (Frag.le_refl _), Mem.on_set hgr.on ?_, hgr.os, hgr.tape, hgr.output, hgr.froz, hgr.size, fun b' hb' hx => ?_, fun b' hb' => ?_⟩
    · rw [hgr.block b hlt (.inl hb)]
      exact hg.mem b i.frag (by simp [S.withM, Mem.set])
    · refine hgr.block b' hb' (hx.imp_left fun hx => ?_)
      unfold Mem.set at hx
      split at hx
      · cases hx
      · exact hx
    · unfold Mem.set at hb' ⊢
      split
      · exact .inl (by simp)
      · rename_i e; rw [if_neg e] at hb'; exact hgr.fresh b' hb'
  refine ⟨M'.set b i.frag, r, hv, hr, hgr', ?_⟩
  obtain ⟨i', k1, _, k3⟩ := key M' r ⟨_, _, _, (hg0.grow hgr).put (Den.of_ground hr ρ) _⟩ hr hk
  rw [h1] at k1; cases k1
  have := k3 b hMb hB
  have eq : (((s.withM M').put oi.dst r).withM (M'.set b i.frag)).put oj.dst (i.r b) = (((s.withM (s.M.set b i.frag)).put oj.dst (i.r b)).withM (M'.set b i.frag)).put oi.dst r := by
    rw [S.put_withM, S.put_withM, S.put_withM, S.put_withM, S.put_withM, S.put_withM, S.put_put_comm _ _ _ hap.b]; rfl
  rw [← eq]; exact this

theorem swap_nn (hI : I.Ok P) {mi mj : Md} {oi oj : Oper} (hap : Apart ops oi oj) (hi : kd oi = .n) (hj : kd oj = .n) {K : S → Prop} {s : S} (hne : gamNE c s) (hw : s.WF)
    (h : TT P I c mi oi (TT P I c mj oj K) s) : TT P I c mj oj (TT P I c mi oi K) s := by
  have hopj := looks_op hap.a
  have hopi := looks_op hap.c
  unfold TT at h ⊢
  simp only [hi] at h ⊢
  obtain ⟨i, h1, h2, h3⟩ := h
  have key : ∀ b, s.M b = none → c.B0 ≤ b → gamNE c ((s.withM (s.M.set b i.frag)).put oi.dst (i.r b)) →
      ∃ j, I.new oj s = some j ∧ j.side () ∧ ∀ b', (s.M.set b i.frag) b' = none → c.B0 ≤ b' →
        G c K ((((s.withM (s.M.set b i.frag)).put oi.dst (i.r b)).withM ((s.M.set b i.frag).set b' j.frag)).put oj.dst (j.r b')) := fun b hb hB hn => by
    have := h3 b hb hB hn ((hw.withM _).put (AV.ground_wf (hI.new_r h1 b) _) _)
    unfold TT at this
    simp only [hj] at this
    obtain ⟨j, k1, k2, k3⟩ := this
    rw [hI.new_put hopj, hI.new_M] at k1
    rw [S.M_put] at k3
    exact ⟨j, k1, k2, k3⟩
  obtain ⟨b0, hb0, hB0, hn0⟩ := hne.new hI h1 h2
  obtain ⟨j, k1, k2, _⟩ := key b0 hb0 hB0 hn0
  simp only [hj]
  refine ⟨j, k1, k2, fun b' hb' hB' _ _ => ?_⟩
  dsimp only
  refine ⟨i, by rw [hI.new_put hopi, hI.new_M]; exact h1, h2, fun b hb hB hneF hwF => ?_⟩
  rw [S.M_put] at hb hneF hwF ⊢
  have hbb : b ≠ b' := fun e => by subst e; simp [S.withM, Mem.set] at hb
  have hb1 : s.M b = none := by simpa [S.withM, Mem.set, hbb] using hb
  have hle : (s.M.set b i.frag).le ((s.M.set b' j.frag).set b i.frag) := Mem.set_le_set (Mem.le_set hb') (Frag.le_refl _)
  have hn : gamNE c ((s.withM (s.M.set b i.frag)).put oi.dst (i.r b)) := by
    have e : (((s.withM (s.M.set b' j.frag)).put oj.dst (j.r b')).withM ((s.M.set b' j.frag).set b i.frag)).put oi.dst (i.r b) =
        (((s.withM (s.M.set b i.frag)).put oi.dst (i.r b)).withM ((s.M.set b' j.frag).set b i.frag)).put oj.dst (j.r b') := by
      rw [S.put_withM, S.put_withM, S.put_withM, S.put_withM, S.put_withM, S.put_withM, S.put_put_comm _ _ _ hap.b]; rfl
    have hneF' : gamNE c ((((s.withM (s.M.set b' j.frag)).put oj.dst (j.r b')).withM ((s.M.set b' j.frag).set b i.frag)).put oi.dst (i.r b)) := hneF
    rw [e] at hneF'
    exact hneF'.unput.weak (.withM (by rw [S.M_put]; exact hle))
  obtain ⟨j', e1, _, e3⟩ := key b hb1 hB hn
  rw [k1] at e1; cases e1
  have := e3 b' (by simp [Mem.set, Ne.symm hbb, hb']) hB'
  have eq : (((s.withM (s.M.set b i.frag)).put oi.dst (i.r b)).withM ((s.M.set b i.frag).set b' j.frag)).put oj.dst (j.r b') =
      (((s.withM (s.M.set b' j.frag)).put oj.dst (j.r b')).withM ((s.withM (s.M.set b' j.frag)).M.set b i.frag)).put oi.dst (i.r b) := by
    rw [S.put_withM, S.put_withM, S.put_withM, S.put_withM, S.put_withM, S.put_withM, S.put_put_comm _ _ _ hap.b]
    show S.withM _ _ = S.withM _ ((s.M.set b' j.frag).set b i.frag)
    rw [Mem.set_comm hbb]; rfl
  rw [eq] at this
  exact this hneF hwF

theorem swap_nf (hI : I.Ok P) {mi mj : Md} {oi oj : Oper} (hap : Apart ops oi oj) (hi : kd oi = .n) (hj : kd oj = .f) {K : S → Prop} {s : S} (hne : gamNE c s) (hw : s.WF)
    (h : TT P I c mi oi (TT P I c mj oj K) s) : TT P I c mj oj (TT P I c mi oi K) s := by
  have hopj := looks_op hap.a
  have hopi := looks_op hap.c
  unfold TT at h ⊢
  simp only [hi, hj] at h ⊢
  obtain ⟨i, h1, h2, h3⟩ := h
  have key : ∀ b, s.M b = none → c.B0 ≤ b → gamNE c ((s.withM (s.M.set b i.frag)).put oi.dst (i.r b)) →
      ∃ d T l, oj.dst = some d ∧ I.alloc oj s = some (T, l) ∧ s.ob d = .none ∧ d < s.objs.length ∧ G c K ((((s.withM (s.M.set b i.frag)).put oi.dst (i.r b)).setOb d (.cells T l)).put (some d) (.ptr d 0)) := fun b hb hB hn => by
    have := h3 b hb hB hn ((hw.withM _).put (AV.ground_wf (hI.new_r h1 b) _) _)
    dsimp only at this
    obtain ⟨d, T, l, k1, k2, k3, k4, k5⟩ := this
    rw [hI.alloc_put hopj, hI.alloc_M] at k2
    rw [S.ob_put] at k3
    rw [S.objs_put] at k4
    exact ⟨d, T, l, k1, k2, k3, k4, k5⟩
  obtain ⟨b0, hb0, hB0, hn0⟩ := hne.new hI h1 h2
  obtain ⟨d, T, l, k1, k2, k3, k4, _⟩ := key b0 hb0 hB0 hn0
  refine ⟨d, T, l, k1, k2, k3, k4, fun _ _ => ?_⟩
  rw [← k1]
  refine ⟨i, by rw [hI.new_put hopi, hI.new_ob]; exact h1, h2, fun b hb hB hneF hwF => ?_⟩
  rw [S.M_put] at hb
  have hb1 : s.M b = none := hb
  have eq : (((s.withM (s.M.set b i.frag)).put oi.dst (i.r b)).setOb d (.cells T l)).put (some d) (.ptr d 0) =
      (((s.setOb d (.cells T l)).put oj.dst (.ptr d 0)).withM (((s.setOb d (.cells T l)).put oj.dst (.ptr d 0)).M.set b i.frag)).put oi.dst (i.r b) := by
    rw [S.M_put, ← k1, ← S.put_setOb, S.setOb_withM, S.put_put_comm _ _ _ hap.b, S.put_withM]; rfl
  have hn : gamNE c ((s.withM (s.M.set b i.frag)).put oi.dst (i.r b)) := by
    have := hneF
    rw [← eq] at this
    exact this.unput.weak (S.Weak.setOb _ (by rw [S.ob_put]; exact k3))
  obtain ⟨d', T', l', e1, e2, _, _, e5⟩ := key b hb1 hB hn
  rw [k1] at e1; cases e1
  rw [k2] at e2; cases e2
  rw [eq] at e5
  exact e5 hneF hwF

theorem swap_ff (hI : I.Ok P) {mi mj : Md} {oi oj : Oper} (hap : Apart ops oi oj) (hi : kd oi = .f) (hj : kd oj = .f) {K : S → Prop} {s : S} (hne : gamNE c s) (hw : s.WF)
    (h : TT P I c mi oi (TT P I c mj oj K) s) : TT P I c mj oj (TT P I c mi oi K) s := by
  have hopj := looks_op hap.a
  have hopi := looks_op hap.c
  unfold TT at h ⊢
  simp only [hi] at h ⊢
  obtain ⟨d, T, l, h1, h2, h3, h4, h5⟩ := h
  have := h5 (hne.alloc hI hw h2 h3 h4) (hw.alloc' hI h2 h4)
  unfold TT at this
  simp only [hj] at this ⊢
  obtain ⟨d', T', l', k1, k2, k3, k4, k5⟩ := this
  have hdd : d ≠ d' := fun e => by subst e; exact hap.b d h1 k1
  rw [← h1, hI.alloc_put hopj, hI.alloc_ob] at k2
  rw [S.ob_put, S.ob_setOb_ne s _ hdd] at k3
  rw [S.objs_put] at k4
  have k4' : d' < s.objs.length := by simpa [S.setOb] using k4
  refine ⟨d', T', l', k1, k2, k3, k4', fun _ _ => ?_⟩
  dsimp only
  refine ⟨d, T, l, h1, by rw [← k1, hI.alloc_put hopi, hI.alloc_ob]; exact h2, by rw [S.ob_put, S.ob_setOb_ne s _ (Ne.symm hdd)]; exact h3, by rw [S.objs_put]; simpa [S.setOb] using h4, ?_⟩
  have eq : (((s.setOb d (.cells T l)).put (some d) (.ptr d 0)).setOb d' (.cells T' l')).put (some d') (.ptr d' 0) =
      (((s.setOb d' (.cells T' l')).put (some d') (.ptr d' 0)).setOb d (.cells T l)).put (some d) (.ptr d 0) := by
    simp only [S.put, S.setOb]
    rw [List.set_comm _ _ hdd, List.set_comm _ _ hdd]
  rw [← eq]; exact k5

theorem swap_fn (hI : I.Ok P) {mi mj : Md} {oi oj : Oper} (hap : Apart ops oi oj) (hi : kd oi = .f) (hj : kd oj = .n) {K : S → Prop} {s : S} (hne : gamNE c s) (hw : s.WF)
    (h : TT P I c mi oi (TT P I c mj oj K) s) : TT P I c mj oj (TT P I c mi oi K) s := by
  have hopj := looks_op hap.a
  have hopi := looks_op hap.c
  unfold TT at h ⊢
  simp only [hi, hj] at h ⊢
  obtain ⟨d, T, l, h1, h2, h3, h4, h5⟩ := h
  obtain ⟨j, k1, k2, k3⟩ := h5 (hne.alloc hI hw h2 h3 h4) (hw.alloc' hI h2 h4)
  rw [← h1, hI.new_put hopj, hI.new_ob] at k1
  refine ⟨j, k1, k2, fun b hb hB hneF hwF => ?_⟩
  refine ⟨d, T, l, h1, by rw [hI.alloc_put hopi, hI.alloc_M]; exact h2, by rw [S.ob_put]; exact h3, by rw [S.objs_put]; exact h4, fun hneG hwG => ?_⟩
  have := k3 b (by rw [S.M_put]; exact hb) hB
  have eq : (((s.setOb d (.cells T l)).put (some d) (.ptr d 0)).withM (((s.setOb d (.cells T l)).put (some d) (.ptr d 0)).M.set b j.frag)).put oj.dst (j.r b) =
      (((s.withM (s.M.set b j.frag)).put oj.dst (j.r b)).setOb d (.cells T l)).put (some d) (.ptr d 0) := by
    rw [S.M_put, ← S.put_setOb, S.setOb_withM, ← h1, S.put_withM, S.put_put_comm _ _ _ hap.b, S.put_withM, S.put_withM]; rfl
  rw [eq] at this
  exact this hneG hwG

theorem swap_wf (hI : I.Ok P) {mi mj : Md} {oi oj : Oper} (hsi : ∀ cs b, oi.op ≠ .select cs b) (hap : Apart ops oi oj) (hi : kd oi = .w) (hj : kd oj = .f) {K : S → Prop} {s : S} (hne : gamNE c s) (hw : s.WF)
    (h : TT P I c mi oi (TT P I c mj oj K) s) : TT P I c mj oj (TT P I c mi oi K) s := by
  have hopi := looks_op hap.c
  unfold TT at h ⊢
  simp only [hi, hj] at h ⊢
  rcases h with ⟨M', h1, h2, h3, h4⟩ | ⟨i, T, l', h1, h2, hav, h4⟩
  · have hn' : gamNE c (s.withM M') := by
      obtain ⟨ρ, a, w, hg⟩ := hne
      obtain ⟨w', _, hgr⟩ := h3 ρ a w hg
      exact ⟨_, _, _, hg.grow hgr⟩
    obtain ⟨d, T', l, k1, k2, k3, k4, k5⟩ := h4 hn' (hw.withM M')
    rw [hI.alloc_M] at k2
    refine ⟨d, T', l, k1, k2, k3, k4, fun _ _ => ?_⟩
    refine .inl ⟨M', h1, h2, ?_, ?_⟩
    · rw [← k1, Upds.put hsi hap.c]
      intro ρ a w hg
      exact h3 ρ a w (hg.weak (S.Weak.setOb _ k3))
    · rw [← S.put_withM]; exact k5
  have hlv := hI.store_live hne h2
  obtain ⟨d, T', l, k1, k2, k3, k4, k5⟩ := h4 (hne.store hI h2) (hw.store (hI.store_wf h2 hw))
  rw [hI.alloc_ob] at k2
  have hid : i ≠ d := fun e => by
    subst e
    rw [S.ob_setOb] at k3
    unfold S.live at hlv
    split at k3
    · cases k3
    · rw [k3] at hlv; cases hlv
  rw [S.ob_setOb_ne s _ hid] at k3
  have k4' : d < s.objs.length := by simpa [S.setOb] using k4
  refine ⟨d, T', l, k1, k2, k3, k4', fun _ _ => ?_⟩
  refine .inr ⟨i, T, l', h1, ?_, hav, ?_⟩
  · rw [← k1, hI.store_put hopi]; exact hI.store_ob h2 (Ne.symm hid)
  · have eq : ((s.setOb i (.cells T l')).setOb d (.cells T' l)).put (some d) (.ptr d 0) = ((s.setOb d (.cells T' l)).put (some d) (.ptr d 0)).setOb i (.cells T l') := by
      simp only [S.put, S.setOb]
      rw [List.set_comm _ _ hid]
    rw [← eq]; exact k5

theorem swap_r (hI : I.Ok P) {mi mj : Md} {oi oj : Oper} (hsi : ∀ cs b, oi.op ≠ .select cs b) (hsj : ∀ cs b, oj.op ≠ .select cs b) (hap : Apart ops oi oj)
    (hi : kd oi = .r) (hst : kd oj = .w → (mi.det = false ∧ mj.avoid ≠ [] ∧ ∀ i ∈ mj.avoid, i ∈ mi.avoid) ∨ (mi.det = true ∧ mi.avoid = [] ∧ noLoad oi = true)) (hup : mj.upd = false ∨ kd oj ≠ .e ∨ (mi.det = true ∧ mi.avoid = []))
    {K : S → Prop} {s : S} (hne : gamNE c s) (hw : s.WF) (h : TT P I c mi oi (TT P I c mj oj K) s) : TT P I c mj oj (TT P I c mi oi K) s := by
  unfold TT at h
  simp only [hi] at h
  obtain ⟨r, h1, h2, h3, h5⟩ := h
  have hr : RInfo P I c mi oi r s := ⟨h1, h2, h3⟩
  have h6 := h5 (hne.put _ _) (hw.put (AV.wf_mono (fun _ => S.live_of_drop) _ h1) _)
  have h7 : TT P I c mj oj K (s.put oi.dst r) := h6
  rw [TT.push hI hsj hap.a hap.b hw] at h7
  rcases hup with hup | hup | hup
  · have h8 := TT.after hI hsi hap.c hst (.inl hup) hr h7
    exact TT.mono (fun s' _ _ _ hK => hK.2.step hi hK.1) h8
  · have h7' : TT P I c { mj with upd := false } oj (fun s' => G c K (s'.put oi.dst r)) s := by
      unfold TT at h7 ⊢
      cases e : kd oj <;> simp only [e] at h7 ⊢ <;> first | exact absurd e hup | exact h7
    have h8 := TT.after (mj := { mj with upd := false }) hI hsi hap.c hst (.inl rfl) hr h7'
    have h9 := TT.mono (K' := TT P I c mi oi K) (fun s' _ _ _ hK => hK.2.step hi hK.1) h8
    unfold TT at h9 ⊢
    cases e : kd oj <;> simp only [e] at h9 ⊢ <;> first | exact absurd e hup | exact h9
  · have h8 := TT.after hI hsi hap.c hst (.inr hup) hr h7
    exact TT.mono (fun s' _ _ _ hK => hK.2.step hi hK.1) h8

/-- A new local variable, and then a reading that does not look at it. -/
theorem swap_fr (hI : I.Ok P) {mi mj : Md} {oi oj : Oper} (hsj : ∀ cs b, oj.op ≠ .select cs b) (hap : Apart ops oi oj)
    (hi : kd oi = .f) (hj : kd oj = .r) (hd : mj.det = false) (ha : ∃ d, oi.dst = some d ∧ d ∈ mj.avoid) {K : S → Prop} {s : S} (hne : gamNE c s) (hw : s.WF)
    (h : TT P I c mi oi (TT P I c mj oj K) s) : TT P I c mj oj (TT P I c mi oi K) s := by
  have hopi := looks_op hap.c
  obtain ⟨d0, hd0, ha⟩ := ha
  unfold TT at h ⊢
  simp only [hi, hj] at h ⊢
  obtain ⟨d, T, l, h1, h2, h3, h4, h5⟩ := h
  have hdd : d0 = d := by rw [h1] at hd0; exact (Option.some.inj hd0).symm
  rw [hdd] at ha
  clear hd0 hdd
  obtain ⟨r, k1, k2, k3, k5⟩ := h5 (hne.alloc hI hw h2 h3 h4) (hw.alloc' hI h2 h4)
  have hob : ∀ j, (((s.setOb d (.cells T l)).put (some d) (.ptr d 0)).drop mj.avoid).ob j = (s.drop mj.avoid).ob j := fun j => by
    rw [S.drop_ob, S.drop_ob, S.ob_put]
    by_cases k : j ∈ mj.avoid
    · simp [k]
    · simp only [k, if_false]
      rw [S.ob_setOb_ne s _ (fun (e : d = j) => k (e ▸ ha))]
  have hwf : r.wf (s.drop mj.avoid).live = true := AV.wf_mono (fun i hi => by unfold S.live at *; rw [hob] at hi; exact hi) r k1
  refine ⟨r, hwf, ?_, (fun e => by rw [hd] at e; cases e), fun hn hw' => ⟨d, T, l, h1, by rw [hI.alloc_put hopi]; exact h2, by rw [S.ob_put]; exact h3, by rw [S.objs_put]; exact h4, fun hn2 hw2 => ?_⟩⟩
  · rw [S.drop_put, ← h1] at k2
    refine ((Reads.put hsj hap.a).1 k2).weak ⟨by rw [S.drop_tmps, S.drop_tmps]; rfl, fun j => .inr ?_, by rw [S.drop_M, S.drop_M]; exact Mem.le_refl _⟩
    have := hob j
    rw [S.drop_put, S.ob_put] at this
    exact this
  · have eq : ((s.setOb d (.cells T l)).put (some d) (.ptr d 0)).put oj.dst r = ((s.put oj.dst r).setOb d (.cells T l)).put (some d) (.ptr d 0) := by
      rw [← h1, S.put_put_comm _ _ _ hap.b, S.put_setOb, h1]
    rw [eq] at k5
    exact k5 hn2 hw2

/-- An operation whose value hangs on operands and local variables alone, behind one that does not touch them. -/
theorem swap_det (hI : I.Ok P) {mi mj : Md} {oi oj : Oper} (hsi : ∀ cs b, oi.op ≠ .select cs b) (hap : Apart ops oi oj)
    (hi : kd oi = .e ∨ kd oi = .n) (hj : kd oj = .r) (hd : mj.det = true) (ha : mj.avoid = []) {K : S → Prop} {s : S} (hne : gamNE c s) (hw : s.WF)
    (h : TT P I c mi oi (TT P I c mj oj K) s) : TT P I c mj oj (TT P I c mi oi K) s := by
  have hopj := looks_op hap.a
  -- the value
  have hval : ∀ s', Kept oi s s' → (∃ M' x, s' = (s.withM M').put oi.dst x) → TT P I c mj oj K s' → ∃ r, I.val oj s = some r ∧ G c K (s'.put oj.dst r) := by
    rintro s' _ ⟨M', x, rfl⟩ hk
    unfold TT at hk
    simp only [hj] at hk
    obtain ⟨r, k1, k2, k3, k5⟩ := hk
    have := k3 hd
    rw [hI.val_put hopj, hI.val_M] at this
    exact ⟨r, this, k5⟩
  have hex : ∃ r, I.val oj s = some r := by
    rcases hi with hi | hi
    · unfold TT at h
      simp only [hi] at h
      obtain ⟨M', r, hn, hr, hk⟩ := hne.act h
      obtain ⟨r', h1, _⟩ := hval _ ((Kept.withM ..).trans (Kept.put ..)) ⟨M', r, rfl⟩ (by
        have := hk hn ((hw.withM M').put (AV.ground_wf hr _) _)
        exact this)
      exact ⟨r', h1⟩
    · unfold TT at h
      simp only [hi] at h
      obtain ⟨i, h1, h2, h3⟩ := h
      obtain ⟨b, hb, hB, hn⟩ := hne.new hI h1 h2
      obtain ⟨r', h1', _⟩ := hval _ ((Kept.withM ..).trans (Kept.put ..)) ⟨_, _, rfl⟩ (by
        have := h3 b hb hB hn ((hw.withM _).put (AV.ground_wf (hI.new_r h1 b) _) _)
        exact this)
      exact ⟨r', h1'⟩
  obtain ⟨r, hr⟩ := hex
  have hwf := hI.val_wf hr hw
  have hri : RInfo P I c mj oj r s := ⟨by rw [ha]; exact hwf, by rw [ha]; exact hI.val hr, fun _ => hr⟩
  refine hri.step hj fun hn hwn => ?_
  rw [TT.push hI hsi hap.c (fun t e e' => hap.b t e' e) hw]
  unfold TT at h ⊢
  rcases hi with hi | hi <;> simp only [hi] at h ⊢
  · refine Effs.mono h fun M' x _ _ _ _ _ _ _ hk => hk.mono fun hn hw' hk => ?_
    have hk' : TT P I c mj oj K ((s.withM M').put oi.dst x) := by unfold TT; simp only [hj] at hk ⊢; exact hk
    obtain ⟨r', e1, e2⟩ := hval _ ((Kept.withM ..).trans (Kept.put ..)) ⟨M', x, rfl⟩ hk'
    rw [hr] at e1; cases e1
    exact e2
  · obtain ⟨i, h1, h2, h3⟩ := h
    refine ⟨i, h1, h2, fun b hb hB => (h3 b hb hB).mono fun hn hw' hk => ?_⟩
    have hk' : TT P I c mj oj K ((s.withM (s.M.set b i.frag)).put oi.dst (i.r b)) := by unfold TT; simp only [hj] at hk ⊢; exact hk
    obtain ⟨r', e1, e2⟩ := hval _ ((Kept.withM ..).trans (Kept.put ..)) ⟨_, _, rfl⟩ hk'
    rw [hr] at e1; cases e1
    exact e2

theorem swapOk_spec {mi mj : Md} {oi oj : Oper} (h : swapOk ops mi mj oi oj = true) : oi.apart ops oj = true ∧
    ((kd oi = .r ∧ (kd oj = .w → (mi.det = false ∧ mj.avoid ≠ [] ∧ ∀ i ∈ mj.avoid, i ∈ mi.avoid) ∨ (mi.det = true ∧ mi.avoid = [] ∧ noLoad oi = true)) ∧ (mj.upd = false ∨ kd oj ≠ .e ∨ (mi.det = true ∧ mi.avoid = []))) ∨
     ((kd oi = .e ∨ kd oi = .n) ∧ kd oj = .r ∧ mj.det = true ∧ mj.avoid = []) ∨
     (kd oi = .e ∧ kd oj = .n ∧ mi.upd = false) ∨ (kd oi = .e ∧ kd oj = .f) ∨ (kd oi = .n ∧ kd oj = .n) ∨ (kd oi = .n ∧ kd oj = .f) ∨ (kd oi = .w ∧ kd oj = .f) ∨ (kd oi = .f ∧ kd oj = .f) ∨ (kd oi = .f ∧ kd oj = .n) ∨
     (kd oi = .f ∧ kd oj = .r ∧ mj.det = false ∧ ∃ d, oi.dst = some d ∧ d ∈ mj.avoid)) := by
  unfold swapOk at h
  simp only [Bool.and_eq_true] at h
  obtain ⟨h1, h4⟩ := h
  refine ⟨h1, ?_⟩
  cases hi : kd oi <;> cases hj : kd oj <;> simp [hi, hj] at h4 ⊢
  · exact h4
  · rcases h4 with h4 | h4
    · exact .inl ⟨h4.1.1, h4.1.2, h4.2⟩
    · exact .inr ⟨h4.1.1, h4.1.2, h4.2⟩
  · exact h4
  · exact h4
  · exact h4
  · refine ⟨h4.1, ?_⟩
    cases hd : oi.dst with
    | none => simp [hd] at h4
    | some d => exact ⟨d, rfl, by simpa [hd] using h4.2⟩

theorem TT.swap (hI : I.Ok P) {mi mj : Md} {oi oj : Oper} (hsi : ∀ cs b, oi.op ≠ .select cs b) (hsj : ∀ cs b, oj.op ≠ .select cs b) (hok : swapOk ops mi mj oi oj = true)
    {K : S → Prop} {s : S} (hne : gamNE c s) (hw : s.WF) (h : TT P I c mi oi (TT P I c mj oj K) s) : TT P I c mj oj (TT P I c mi oi K) s := by
  obtain ⟨hap, hk⟩ := swapOk_spec hok
  have hap := Apart.of hap
  rcases hk with ⟨hi, hst, hup⟩ | ⟨hi, hj, hd, ha⟩ | ⟨hi, hj, hmi⟩ | ⟨hi, hj⟩ | ⟨hi, hj⟩ | ⟨hi, hj⟩ | ⟨hi, hj⟩ | ⟨hi, hj⟩ | ⟨hi, hj⟩ | ⟨hi, hj, hd, ha⟩
  · exact swap_r hI hsi hsj hap hi hst hup hne hw h
  · exact swap_det hI hsi hap hi hj hd ha hne hw h
  · exact swap_en hI hmi hsi hap hi hj hne hw h
  · exact swap_ef hI hsi hap hi hj hne hw h
  · exact swap_nn hI hap hi hj hne hw h
  · exact swap_nf hI hap hi hj hne hw h
  · exact swap_wf hI hsi hap hi hj hne hw h
  · exact swap_ff hI hap hi hj hne hw h
  · exact swap_fn hI hap hi hj hne hw h
  · exact swap_fr hI hsj hap hi hj hd ha hne hw h

theorem TG.swap (hI : I.Ok P) {mi mj : Md} {oi oj : Oper} (hsi : ∀ cs b, oi.op ≠ .select cs b) (hsj : ∀ cs b, oj.op ≠ .select cs b) (hok : swapOk ops mi mj oi oj = true)
    {K : S → Prop} {s : S} (hne : gamNE c s) (hw : s.WF) (h : TG P I c ops mi oi (TG P I c ops mj oj K) s) : TG P I c ops mj oj (TG P I c ops mi oi K) s := by
  obtain ⟨hap, _⟩ := swapOk_spec hok
  have hap := Apart.of hap
  have uw : ∀ p, uav.wf p = true := fun p => AV.ground_wf uav_ground p
  have gj : ∀ s', Kept oi s s' → guardV ops oj s' = guardV ops oj s := fun s' hk => hk.guard hap.a
  have gi : ∀ s', Kept oj s s' → guardV ops oi s' = guardV ops oi s := fun s' hk => hk.guard hap.c
  cases hgi : guardV ops oi s with
  | none => unfold TG at h; rw [hgi] at h; exact h.elim
  | some x =>
    cases hgj : guardV ops oj s with
    | none =>
      exfalso
      have h' : TG P I c ops mi oi (fun s' => False) s := TG.mono (fun s' _ _ hk hK => by unfold TG at hK; rw [gj s' hk, hgj] at hK; exact hK) h
      obtain ⟨ρ, a, w, hg⟩ := hne
      unfold TG at h'
      rw [hgi] at h'
      cases x with
      | false => exact (h' ((Gam.ne hg).put _ _) (hw.put (uw _) _))
      | true =>
        have := TT.sound (Q := fun _ _ _ => False) hI hg hw h'
        have hf : ∀ a' w', ¬ Went c (fun _ => False) a' w' := fun a' w' ⟨_, _, _, _, h⟩ => h
        unfold TT at h'
        cases hk : kd oi <;> simp only [hk] at h'
        · obtain ⟨r, h1, h2, _, h5⟩ := h'; exact h5 ((Gam.ne hg).put _ _) (hw.put (AV.wf_mono (fun _ => S.live_of_drop) _ h1) _)
        · obtain ⟨M', r, hn, hr, hk'⟩ := (Gam.ne hg).act h'; exact hk' hn ((hw.withM M').put (AV.ground_wf hr _) _)
        · obtain ⟨i, h1, h2, h3⟩ := h'
          obtain ⟨b, hb, hB, hn⟩ := (Gam.ne hg).new hI h1 h2
          exact h3 b hb hB hn ((hw.withM _).put (AV.ground_wf (hI.new_r h1 b) _) _)
        · obtain ⟨d, T, l, h1, h2, h3, h4, h5⟩ := h'; exact h5 ((Gam.ne hg).alloc hI hw h2 h3 h4) (hw.alloc' hI h2 h4)
        · rcases h' with ⟨M', _, _, h3, h4⟩ | ⟨i, T, l', h1, h2, h3, h4⟩
          · obtain ⟨w', _, hgr⟩ := h3 ρ a w hg
            exact h4 ⟨_, _, _, hg.grow hgr⟩ (hw.withM M')
          · exact h4 ((Gam.ne hg).store hI h2) (hw.store (hI.store_wf h2 hw))
    | some y =>
      have hin : ∀ (K' : S → Prop), TG P I c ops mi oi (TG P I c ops mj oj K) s → TG P I c ops mi oi (fun s' => if y then TT P I c mj oj K s' else G c K (s'.put oj.dst uav)) s := fun _ h =>
        TG.mono (fun s' _ _ hk hK => by unfold TG at hK; rw [gj s' hk, hgj] at hK; cases y <;> exact hK) h
      have h1 := hin K h
      have hout : ∀ m : Unit, (if y then TT P I c mj oj (fun s' => if x then TT P I c mi oi K s' else G c K (s'.put oi.dst uav)) s else G c (fun s' => if x then TT P I c mi oi K s' else G c K (s'.put oi.dst uav)) (s.put oj.dst uav)) →
          TG P I c ops mj oj (TG P I c ops mi oi K) s := fun _ h => by
        unfold TG
        rw [hgj]
        cases y with
        | true =>
          refine TT.mono (fun s' _ _ hk hK => ?_) h
          rw [gi s' hk, hgi]
          cases x <;> exact hK
        | false =>
          simp only [Bool.false_eq_true, if_false] at h
          refine G.mono (fun _ _ hK => ?_) h
          rw [gi _ (Kept.put ..), hgi]
          cases x <;> exact hK
      refine hout () ?_
      unfold TG at h1
      rw [hgi] at h1
      cases x with
      | false =>
        have h2 := h1 (hne.put _ _) (hw.put (uw _) _)
        cases y with
        | false =>
          intro _ _ _ _
          simp only [Bool.false_eq_true, if_false] at h2
          rw [S.put_put_comm _ _ _ hap.b] at h2
          exact h2 (by assumption) (by assumption)
        | true =>
          simp only [if_true, Bool.false_eq_true, if_false] at h2 ⊢
          rw [TT.push hI hsj hap.a hap.b hw] at h2
          exact h2
      | true =>
        cases y with
        | false =>
          simp only [if_true, Bool.false_eq_true, if_false] at h1 ⊢
          intro _ _
          rw [TT.push hI hsi hap.c (fun t e e' => hap.b t e' e) hw]
          exact h1
        | true =>
          simp only [if_true] at h1 ⊢
          exact TT.swap hI hsi hsj hok hne hw h1

/-! ### A region that draws its order -/

def mdAt (mds : List (Nat × Md)) (i : Nat) : Md := ((mds.find? (·.1 == i)).map (·.2)).getD {}

variable (P I c ops) in
/-- Operation number i comes up. -/
def TGi (mds : List (Nat × Md)) (i : Nat) (K : S → Prop) (s : S) : Prop :=
  match ops[i]? with
  | none => K s
  | some o => TG P I c ops (mdAt mds i) o K s

variable (P I c ops) in
/-- Whatever order is picked from here on. -/
def aAny (mds : List (Nat × Md)) (K : S → Prop) : Nat → Array Bool → S → Prop
  | 0, listed, s => Region.ready .any ops listed = [] ∧ K s
  | fuel + 1, listed, s => (Region.ready .any ops listed = [] → K s) ∧ ∀ i ∈ Region.ready .any ops listed, TGi P I c ops mds i (aAny mds K fuel (listed.setIfInBounds i true)) s

theorem TGi.mono {mds : List (Nat × Md)} {i : Nat} {K K' : S → Prop} {s : S} (hne : gamNE c s) (hw : s.WF) (hk : ∀ s', gamNE c s' → s'.WF → K s' → K' s') (h : TGi P I c ops mds i K s) : TGi P I c ops mds i K' s := by
  unfold TGi at *
  split
  · rename_i e; rw [e] at h; exact hk s hne hw h
  · rename_i e; rw [e] at h; exact TG.mono (fun s' a b _ h => hk s' a b h) h

theorem TGi.sound (hI : I.Ok P) {mds : List (Nat × Md)} {i : Nat} {K : S → Prop} {Q : Exit → Act → World → Prop} {ρ : Nat → Nat} {s : S} {a : Act} {w : World} (hg : Gam c ρ s a w) (hw : s.WF)
    (h : TGi P I c ops mds i K s) : wpOp P ops Q i (Went c K) a w := by
  unfold TGi at h
  cases ho : ops[i]? with
  | none => rw [ho] at h; unfold wpOp; simp only [ho]; exact ⟨ρ, s, hw, hg, h⟩
  | some o => rw [ho] at h; exact TG.sound hI ho hg hw h

theorem aAny.sound (hI : I.Ok P) {mds : List (Nat × Md)} {K : S → Prop} {Q : Exit → Act → World → Prop} (hQ : ∀ a w, Went c K a w → Q .normal a w) :
    ∀ (fuel : Nat) (listed : Array Bool) {ρ : Nat → Nat} {s : S} {a : Act} {w : World}, Gam c ρ s a w → s.WF → aAny P I c ops mds K fuel listed s → wpAny P .any ops Q fuel listed a w
  | 0, _, _, _, _, _, hg, hw, h => ⟨h.1, hQ _ _ ⟨_, _, hw, hg, h.2⟩⟩
  | fuel + 1, _, _, _, _, _, hg, hw, h => ⟨fun h0 => hQ _ _ ⟨_, _, hw, hg, h.1 h0⟩, fun i hi =>
      wpOp_mono (fun _ _ ⟨_, _, hw', hg', h'⟩ => aAny.sound hI hQ fuel _ hg' hw' h') (TGi.sound hI hg hw (h.2 i hi))⟩

variable (ops) in
/-- What is listed has its predecessors listed. -/
def DC (listed : Array Bool) : Prop := ∀ k o, ops[k]? = some o → listed.getD k false = true → ∀ e ∈ o.after, Region.binds .any e = true → listed.getD e.on false = true

theorem getD_set_self {listed : Array Bool} {i j : Nat} (h : (listed.setIfInBounds i true).getD j false = true) : j = i ∨ listed.getD j false = true := by
  by_cases e : i = j
  · exact .inl e.symm
  · rw [getD_set_ne false e] at h; exact .inr h

theorem DC.set {listed : Array Bool} {j : Nat} (h : DC ops listed) (hj : j ∈ Region.ready .any ops listed) : DC ops (listed.setIfInBounds j true) := by
  intro k o ho hk e he hb
  rcases getD_set_self hk with rfl | hk
  · obtain ⟨_, o', ho', hall⟩ := mem_ready.1 hj
    rw [ho] at ho'; cases ho'
    exact getD_set_true (hall e he hb)
  · exact getD_set_true (h k o ho hk e he hb)

theorem aAny.first (hI : I.Ok P) (hs : Region.noSelect ops = true) {mds : List (Nat × Md)} {K : S → Prop} {i : Nat} {oi : Oper} (hi : ops[i]? = some oi) :
    ∀ (fuel : Nat) (listed : Array Bool) (s : S), gamNE c s → s.WF →
      DC ops listed → (∀ j oj listed', DC ops listed' → ops[j]? = some oj → j ≠ i → (∀ k, listed.getD k false = true → listed'.getD k false = true) → listed'.getD i true = false → j ∈ Region.ready .any ops listed' → swapOk ops (mdAt mds i) (mdAt mds j) oi oj = true) →
      i ∈ Region.ready .any ops listed → TGi P I c ops mds i (aAny P I c ops mds K fuel (listed.setIfInBounds i true)) s → aAny P I c ops mds K (fuel + 1) listed s := by
  intro fuel
  induction fuel with
  | zero =>
    intro listed s hne hw _ _ hr H
    refine ⟨fun h => (by rw [h] at hr; cases hr), fun j hj => ?_⟩
    by_cases hji : j = i
    · subst hji; exact H
    · -- then j is still ready behind i: the region's end is not yet
      have hm := ready_mono hj hji
      exfalso
      have : TGi P I c ops mds i (fun _ => False) s := TGi.mono hne hw (fun s' _ _ h => by rw [h.1] at hm; cases hm) H
      obtain ⟨ρ, a, w, hg⟩ := hne
      have hso := TGi.sound (Q := fun _ _ _ => False) hI hg hw this
      unfold wpOp at hso
      simp only [hi] at hso
      have hno : ∀ a' w', ¬ Went c (fun _ => False) a' w' := fun a' w' ⟨_, _, _, _, h⟩ => h
      unfold TGi TG at this
      simp only [hi] at this
      cases hgv : guardV ops oi s with
      | none => rw [hgv] at this; exact this
      | some x =>
        rw [hgv] at this
        cases x with
        | false => exact this ((Gam.ne hg).put _ _) (hw.put (AV.ground_wf uav_ground _) _)
        | true =>
          simp only at this
          unfold TT at this
          cases hk : kd oi <;> simp only [hk] at this
          · obtain ⟨r, h1, h2, _, h5⟩ := this; exact h5 ((Gam.ne hg).put _ _) (hw.put (AV.wf_mono (fun _ => S.live_of_drop) _ h1) _)
          · obtain ⟨M', r, hn, hr, hk'⟩ := (Gam.ne hg).act this; exact hk' hn ((hw.withM M').put (AV.ground_wf hr _) _)
          · obtain ⟨n, h1, h2, h3⟩ := this
            obtain ⟨b, hb, hB, hn⟩ := (Gam.ne hg).new hI h1 h2
            exact h3 b hb hB hn ((hw.withM _).put (AV.ground_wf (hI.new_r h1 b) _) _)
          · obtain ⟨d, T, l, h1, h2, h3, h4, h5⟩ := this; exact h5 ((Gam.ne hg).alloc hI hw h2 h3 h4) (hw.alloc' hI h2 h4)
          · rcases this with ⟨M', _, _, h3, h4⟩ | ⟨n, T, l', h1, h2, h3, h4⟩
            · obtain ⟨w', _, hgr⟩ := h3 ρ a w hg
              exact h4 ⟨_, _, _, hg.grow hgr⟩ (hw.withM M')
            · exact h4 ((Gam.ne hg).store hI h2) (hw.store (hI.store_wf h2 hw))
  | succ fuel ih =>
    intro listed s hne hw hdc hfree hr H
    refine ⟨fun h => (by rw [h] at hr; cases hr), fun j hj => ?_⟩
    by_cases hji : j = i
    · subst hji; exact H
    · obtain ⟨hjun, oj, hoj, hall⟩ := mem_ready.1 hj
      have hiun := (mem_ready.1 hr).1
      have hsw := hfree j oj listed hdc hoj hji (fun _ h => h) hiun hj
      have h1 : TGi P I c ops mds i (TGi P I c ops mds j (aAny P I c ops mds K fuel ((listed.setIfInBounds i true).setIfInBounds j true))) s :=
        TGi.mono hne hw (fun s' _ _ h => h.2 j (ready_mono hj hji)) H
      have h2 : TGi P I c ops mds j (TGi P I c ops mds i (aAny P I c ops mds K fuel ((listed.setIfInBounds j true).setIfInBounds i true))) s := by
        rw [Array.setIfInBounds_comm _ _ hji]
        unfold TGi at h1 ⊢
        simp only [hi, hoj] at h1 ⊢
        exact TG.swap hI (Region.noSelect_spec hs i oi · · hi) (Region.noSelect_spec hs j oj · · hoj) hsw hne hw h1
      refine TGi.mono hne hw (fun s' hne' hw' h3 => ih (listed.setIfInBounds j true) s' hne' hw' (hdc.set hj) (fun k ok listed' hdc' hk hki hsub hun hrk => ?_) (ready_mono hr (Ne.symm hji)) h3) h2
      exact hfree k ok listed' hdc' hk hki (fun q hq => hsub q (getD_set_true hq)) hun hrk

/-! ### All predecessors, as bits -/

def preds (o : Oper) : List Nat := (o.after.toList.filter (Region.binds .any)).map (·.on)
def befStep (acc : List Nat) (o : Oper) : Nat := (preds o).foldl (fun s k => s ||| 2 ^ k ||| acc.getD k 0) 0
def befsL : List Oper → List Nat → List Nat
  | [], acc => acc
  | o :: l, acc => befsL l (acc ++ [befStep acc o])

theorem fold_testBit (f : Nat → Nat) (i : Nat) : ∀ (l : List Nat) (s : Nat), (l.foldl (fun s k => s ||| 2 ^ k ||| f k) s).testBit i = true → s.testBit i = true ∨ ∃ k ∈ l, k = i ∨ (f k).testBit i = true
  | [], s, h => .inl h
  | k :: l, s, h => by
    rw [List.foldl_cons] at h
    rcases fold_testBit f i l _ h with h | ⟨k', hk', h⟩
    · simp only [Nat.testBit_or, Bool.or_eq_true, Nat.testBit_two_pow, decide_eq_true_eq] at h
      rcases h with (h | h) | h
      · exact .inl h
      · exact .inr ⟨k, by simp, .inl h⟩
      · exact .inr ⟨k, by simp, .inr h⟩
    · exact .inr ⟨k', by simp [hk'], h⟩

theorem befsL_prefix : ∀ (l : List Oper) (acc : List Nat), ∃ r, befsL l acc = acc ++ r
  | [], acc => ⟨[], by simp [befsL]⟩
  | o :: l, acc => by
    obtain ⟨r, h⟩ := befsL_prefix l (acc ++ [befStep acc o])
    exact ⟨befStep acc o :: r, by rw [befsL, h]; simp⟩

theorem befsL_get : ∀ (l : List Oper) (acc : List Nat) (j : Nat) (o : Oper), l[j]? = some o →
    (befsL l acc).getD (acc.length + j) 0 = befStep ((befsL l acc).take (acc.length + j)) o
  | [], _, _, _, h => by simp at h
  | o :: l, acc, 0, o', h => by
    simp at h; subst h
    obtain ⟨r, hr⟩ := befsL_prefix l (acc ++ [befStep acc o])
    rw [befsL, hr]
    simp
  | o :: l, acc, j + 1, o', h => by
    simp at h
    have := befsL_get l (acc ++ [befStep acc o]) j o' h
    rw [List.length_append, List.length_singleton, Nat.add_assoc, Nat.add_comm 1 j] at this
    rw [befsL]; exact this

theorem befs_listed {listed : Array Bool} (hdc : DC ops listed) {i : Nat} : ∀ (n j : Nat), j < n → ∀ o, ops[j]? = some o → (∀ e ∈ o.after, Region.binds .any e = true → listed.getD e.on false = true) →
    ((befsL ops.toList []).getD j 0).testBit i = true → listed.getD i false = true
  | 0, _, h, _, _, _, _ => absurd h (by omega)
  | n + 1, j, hj, o, ho, hall, hb => by
    have hg := befsL_get ops.toList [] j o (by simpa using ho)
    simp only [List.length_nil, Nat.zero_add] at hg
    rw [hg, befStep] at hb
    rcases fold_testBit _ i _ _ hb with h | ⟨k, hk, h⟩
    · simp at h
    · obtain ⟨e, he, rfl⟩ := List.mem_map.1 hk
      obtain ⟨he1, he2⟩ := List.mem_filter.1 he
      have hl := hall e (by simpa using he1) he2
      rcases h with h | h
      · rw [← h]; exact hl
      · have hlt : e.on < j := by
          rcases Nat.lt_or_ge e.on j with h' | h'
          · exact h'
          · rw [List.getD_eq_getElem?_getD, List.getElem?_eq_none (by simp; omega)] at h
            simp at h
        have h2 : ((befsL ops.toList []).getD e.on 0).testBit i = true := by
          rw [List.getD_eq_getElem?_getD] at h ⊢
          rwa [List.getElem?_take_of_lt hlt] at h
        have hsz : e.on < ops.size := by
          have := (Array.getElem?_eq_some_iff.1 ho).1; omega
        exact befs_listed hdc n e.on (by omega) ops[e.on] (by simp [hsz]) (fun e' he' hb' => hdc e.on _ (by simp [hsz]) hl e' he' hb') h2

def pairOk (ops : Array Oper) (mds : List (Nat × Md)) (i j : Nat) : Bool :=
  match ops[i]?, ops[j]? with
  | some oi, some oj => swapOk ops (mdAt mds i) (mdAt mds j) oi oj
  | _, _ => false

def chkOrd (ops : Array Oper) (mds : List (Nat × Md)) (bf : List Nat) : List Nat → Array Bool → Bool
  | [], listed => (Region.ready .any ops listed).isEmpty
  | i :: l, listed => (Region.ready .any ops listed).contains i &&
    (List.range ops.size).all (fun j => listed.getD j false || j == i || (bf.getD j 0).testBit i || pairOk ops mds i j) && chkOrd ops mds bf l (listed.setIfInBounds i true)

variable (P I c ops) in
/-- The operations in one order. -/
def runG (mds : List (Nat × Md)) : List Nat → (S → Prop) → S → Prop
  | [], K, s => K s
  | i :: l, K, s => TGi P I c ops mds i (runG mds l K) s

theorem aAny.ofOrd (hI : I.Ok P) (hs : Region.noSelect ops = true) {mds : List (Nat × Md)} {K : S → Prop} : ∀ (l : List Nat) (listed : Array Bool) (s : S), gamNE c s → s.WF → DC ops listed →
    chkOrd ops mds (befsL ops.toList []) l listed = true → runG P I c ops mds l K s → aAny P I c ops mds K l.length listed s
  | [], listed, s, _, _, _, hc, h => ⟨by simpa [chkOrd] using hc, h⟩
  | i :: l, listed, s, hne, hw, hdc, hc, h => by
    simp only [chkOrd, Bool.and_eq_true, List.contains_iff_mem, List.all_eq_true] at hc
    obtain ⟨⟨hr, hall⟩, hc⟩ := hc
    obtain ⟨hiun, oi, hi, _⟩ := mem_ready.1 hr
    refine aAny.first hI hs hi l.length listed s hne hw hdc (fun j oj listed' hdc' hj hji hsub hun hrj => ?_) hr ?_
    · have hjlt : j < ops.size := (Array.getElem?_eq_some_iff.1 hj).1
      have := hall j (List.mem_range.2 hjlt)
      simp only [Bool.or_eq_true, beq_iff_eq] at this
      rcases this with ((h1 | h1) | h1) | h1
      · -- listed already: then in listed' too; but j is ready there
        exfalso
        have hjun := (mem_ready.1 hrj).1
        have h3 := hsub j h1
        rcases Nat.lt_or_ge j listed'.size with h'' | h''
        · simp [h''] at hjun h3; rw [hjun] at h3; cases h3
        · simp [Array.getElem?_eq_none h''] at h3
      · exact absurd h1 hji
      · exfalso
        obtain ⟨_, o', ho', hall'⟩ := mem_ready.1 hrj
        rw [hj] at ho'; cases ho'
        have := befs_listed hdc' (j + 1) j (by omega) oj hj hall' h1
        rcases Nat.lt_or_ge i listed'.size with h'' | h''
        · simp [h''] at hun this; rw [hun] at this; cases this
        · simp [Array.getElem?_eq_none h''] at this
      · unfold pairOk at h1; simp only [hi, hj] at h1; exact h1
    · unfold runG at h
      exact TGi.mono hne hw (fun s' hne' hw' h' => aAny.ofOrd hI hs l _ s' hne' hw' (hdc.set hr) hc h') h

theorem Gam.drew {ρ : Nat → Nat} {s : S} {a : Act} {w : World} (h : Gam c ρ s a w) : Gam c ρ s a { w with drawn := w.drawn + 1 } :=
  ⟨h.tsz, h.tmp, h.defers, h.mem, h.ob, h.inj, ⟨h.fr.os, h.fr.tape, h.fr.output, h.fr.froz, h.fr.size, h.fr.block⟩, h.new⟩

variable (c) in
/-- Behind a region. -/
def Past (K : S → Prop) (e : Exit) (a : Act) (w : World) : Prop := e = .normal ∧ Went c K a w

/-- **One order serves all.** -/
theorem region_draw (hI : I.Ok P) (hm : P.follows .mixedOrders = true) {id : Nat} {mds : List (Nat × Md)} {ord : List Nat} (hs : Region.noSelect ops = true) (hlen : ord.length = ops.size)
    (hc : chkOrd ops mds (befsL ops.toList []) ord (Array.replicate ops.size false) = true) {K : S → Prop} {ρ : Nat → Nat} {s : S} {a : Act} {w : World} (hg : Gam c ρ s a w) (hw : s.WF)
    (h : runG P I c ops mds ord K s) : (Code.region id ops true).wp P (Past c K) a w := by
  refine wp_region_any hm ?_
  have h1 := aAny.ofOrd hI hs ord (Array.replicate ops.size false) s hg.ne hw (fun k o ho hk => by
    have hlt : k < ops.size := (Array.getElem?_eq_some_iff.1 ho).1
    simp [hlt] at hk) hc h
  rw [hlen] at h1
  exact aAny.sound (Q := Past c K) hI (fun _ _ h => ⟨rfl, h⟩) _ _ hg.drew hw h1

/-- A region in the text's order. -/
theorem region_text (hI : I.Ok P) {id : Nat} {mds : List (Nat × Md)} {K : S → Prop} {ρ : Nat → Nat} {s : S} {a : Act} {w : World} (hg : Gam c ρ s a w) (hw : s.WF)
    (h : runG P I c ops mds (List.range ops.size) K s) : (Code.region id ops false).wp P (Past c K) a w := by
  refine wp_region ?_
  have key : ∀ (l : List Nat) {ρ : Nat → Nat} {s : S} {a : Act} {w : World}, Gam c ρ s a w → s.WF → runG P I c ops mds l K s → wpOps P ops (Past c K) l a w := by
    intro l
    induction l with
    | nil => intro ρ s a w hg hw h; exact ⟨rfl, ρ, s, hw, hg, h⟩
    | cons i l ih =>
      intro ρ s a w hg hw h
      rw [wpOps_cons]
      exact wpOp_mono (fun _ _ ⟨_, _, hw', hg', h'⟩ => ih hg' hw' h') (TGi.sound hI hg hw h)
  exact key _ hg hw h

end
end Go.SX
