/- The executor is sound, 2. -/
import Derived.Test.YtojdihbanakhgaaSxI
namespace Go.SX

section
variable {c : Ct} {ρ : Nat → Nat} {s : S} {a : Act} {w : World}

theorem rAsk_split {op : Op} {ev : Operand → AV} {M : Mem} {p : AV → Prop} (h : rAsk op ev M p) : ∃ r, rAsk op ev M (fun r' => r' = r) ∧ p r := by
  unfold rAsk at *
  split at h
  · split at h
    · split at h
      · rename_i e; simp only [e, if_true]; obtain ⟨l, h1, h2, h3, h4⟩ := h; exact ⟨_, ⟨l, h1, h2, h3, rfl⟩, h4⟩
      · rename_i e; simp only [e, if_false, Bool.false_eq_true]; obtain ⟨l, h1, h2, h3⟩ := h; exact ⟨_, ⟨l, h1, h2, rfl⟩, h3⟩
    · exact h.elim
  · split at h
    · split at h
      · obtain ⟨b, o, j, h1, h2, h3, h4⟩ := h; exact ⟨_, ⟨b, o, j, h1, h2, h3, rfl⟩, h4⟩
      · exact h.elim
    · split at h
      · obtain ⟨j, h1, h2, h3⟩ := h; exact ⟨_, ⟨j, h1, h2, rfl⟩, h3⟩
      · exact h.elim
    · exact h.elim
  · split at h
    · split at h
      · split at h
        · rename_i e; subst e; simp only [if_true]; obtain ⟨n, h1, h2⟩ := h; exact ⟨_, ⟨n, h1, rfl⟩, h2⟩
        · exact h.elim
      · split at h
        · rename_i e; subst e; simp only [if_true]; obtain ⟨n, h1, h2⟩ := h; exact ⟨_, ⟨n, h1, rfl⟩, h2⟩
        · exact h.elim
      · split at h
        · rename_i e; subst e; simp only [if_true]; obtain ⟨n, h1, h2⟩ := h; exact ⟨_, ⟨n, h1, rfl⟩, h2⟩
        · exact h.elim
      iterate 2
        (· split at h
           · rename_i e; subst e; simp only [if_true]
             rcases h with ⟨n, h1, h2, h3, h4⟩ | ⟨n, h1, h2, h3, h4⟩
             · exact ⟨_, .quo n h1 h2 h3 rfl, h4⟩
             · exact ⟨_, .rem n h1 h2 h3 rfl, h4⟩
           · exact h.elim)
      iterate 4
        (· split at h
           · rename_i e; subst e; simp only [if_true]; obtain ⟨n, h1, h2⟩ := h; exact ⟨_, ⟨n, h1, rfl⟩, h2⟩
           · exact h.elim)
      iterate 2
        (· rcases h with ⟨n, h1, h2, h3, h4⟩ | ⟨n, h1, h2, h3, h4⟩
           · exact ⟨_, .shl n h1 h2 h3 rfl, h4⟩
           · exact ⟨_, .shr n h1 h2 h3 rfl, h4⟩)
      · exact h.elim
    · exact h.elim
  · split at h
    · obtain ⟨n, h1, h2⟩ := h; exact ⟨_, ⟨n, h1, rfl⟩, h2⟩
    · exact h.elim
  · split at h
    · obtain ⟨n, h1, h2⟩ := h; exact ⟨_, ⟨n, h1, rfl⟩, h2⟩
    · exact h.elim
  · split at h
    · split at h
      · obtain ⟨L, H, m, h1, h2, h3, h4, h5, h6, h7, h8⟩ := h; exact ⟨_, ⟨L, H, m, h1, h2, h3, h4, h5, h6, h7, rfl⟩, h8⟩
      · exact h.elim
    · exact h.elim
  · split at h
    · split at h
      · exact ⟨_, rfl, h⟩
      · exact h.elim
    · exact h.elim
  · split at h
    · split at h
      · exact ⟨_, rfl, h⟩
      · exact h.elim
    · exact h.elim
  · split at h
    · obtain ⟨b, j, n, h1, h2, h3, h4⟩ := h; exact ⟨_, ⟨b, j, n, h1, h2, h3, rfl⟩, h4⟩
    · exact h.elim
  · exact h.elim

theorem rAsk_wf {op : Op} (hw : s.WF) {r : AV} (h : rAsk op s.eval s.M (fun r' => r' = r)) : r.wf s.live = true := by
  unfold rAsk at h
  split at h
  · split at h
    · split at h
      · obtain ⟨l, h1, h2, h3, rfl⟩ := h
        simp only [AV.groundL, Bool.and_eq_true] at h2
        exact AV.wfL_mono (p := fun _ => false) (fun i hi => by cases hi) l h2.2
      · obtain ⟨l, h1, h2, rfl⟩ := h; exact AV.ground_wf h1 _
    · exact h.elim
  · split at h
    · split at h
      · obtain ⟨b, o, j, h1, h2, h3, rfl⟩ := h; rfl
      · exact h.elim
    · split at h
      · rename_i id off ti he hte
        obtain ⟨j, h1, h2, rfl⟩ := h
        have h3 := congrArg (AV.wf s.live) he
        rw [S.eval_wf hw] at h3
        exact h3.symm
      · exact h.elim
    · exact h.elim
  · split at h
    · split at h
      iterate 3
        (· split at h
           · obtain ⟨n, h1, rfl⟩ := h; rfl
           · exact h.elim)
      iterate 2
        (· split at h
           · rcases h with ⟨n, h1, h2, h3, rfl⟩ | ⟨n, h1, h2, h3, rfl⟩ <;> rfl
           · exact h.elim)
      iterate 4
        (· split at h
           · obtain ⟨n, h1, rfl⟩ := h; rfl
           · exact h.elim)
      iterate 2
        (· rcases h with ⟨n, h1, h2, h3, rfl⟩ | ⟨n, h1, h2, h3, rfl⟩ <;> rfl)
      · exact h.elim
    · exact h.elim
  · split at h
    · obtain ⟨n, h1, rfl⟩ := h; rfl
    · exact h.elim
  · split at h
    · obtain ⟨n, h1, rfl⟩ := h; rfl
    · exact h.elim
  · split at h
    · split at h
      · obtain ⟨L, H, m, h1, h2, h3, h4, h5, h6, h7, rfl⟩ := h; rfl
      · exact h.elim
    · exact h.elim
  · split at h
    · split at h
      · subst h; rfl
      · exact h.elim
    · exact h.elim
  · split at h
    · split at h
      · subst h; rfl
      · exact h.elim
    · exact h.elim
  · split at h
    · obtain ⟨b, j, n, h1, h2, h3, h4⟩ := h; subst h4; rfl
    · exact h.elim
  · exact h.elim

theorem groundL_vals (hg : Gam c ρ s a w) : ∀ {l : List Operand}, AV.groundL (l.map s.eval) = true → (l.map a.eval).toArray = AV.vals (l.map s.eval) := by
  intro l h
  simp only [AV.groundL, Bool.and_eq_true] at h
  unfold AV.vals
  congr 1
  have e1 : AV.denL ρ (l.map s.eval) = AV.denL (fun _ => 0) (l.map s.eval) := AV.denL_congr (p := fun _ => false) (fun i hi => by cases hi) _ h.2
  rw [← e1, AV.denL_eq, List.map_map]
  apply List.map_congr_left
  intro x hx
  have hs := h.1
  rw [AV.sureL_eq, List.all_eq_true] at hs
  have := hs (s.eval x) (List.mem_map.2 ⟨x, hx, rfl⟩)
  exact (hg.eval x).out fun e => by rw [e] at this; cases this

theorem groundL_app {l m : List AV} : AV.groundL (l ++ m) = (AV.groundL l && AV.groundL m) := by
  simp only [AV.groundL, AV.sureL_eq, AV.wfL_eq, List.all_append]
  cases l.all AV.sure <;> cases m.all AV.sure <;> simp

theorem vals_app (l m : List AV) : AV.vals (l ++ m) = AV.vals l ++ AV.vals m := by
  simp [AV.vals, AV.denL_eq]

theorem call_run (hg : Gam c ρ s a w) {f : Operand} {args : Array Operand} {ats : Array TypeId} {ty : TypeId} {g : Nat} {fst cap : List AV} (he : s.eval f = .clo (.func g) fst cap)
    (hgr : AV.groundL (fst ++ args.toList.map s.eval ++ cap) = true) (P : Program) :
    ((do let d ← resolve a.eval { callee := .value f, args := args, argTypes := ats } ty; invoke d.target d.args : Sem Next)).run P w = (callFunc g (AV.vals (fst ++ args.toList.map s.eval ++ cap))).run P w := by
  have ef := hg.evalD he (by simp)
  rw [groundL_app, groundL_app, Bool.and_eq_true, Bool.and_eq_true] at hgr
  have hargs := groundL_vals hg hgr.1.2
  simp only [AV.groundL, Bool.and_eq_true] at hgr
  have e1 : AV.denL ρ fst = AV.denL (fun _ => 0) fst := AV.denL_congr (p := fun _ => false) (fun i hi => by cases hi) _ hgr.1.1.2
  have e2 : AV.denL ρ cap = AV.denL (fun _ => 0) cap := AV.denL_congr (p := fun _ => false) (fun i hi => by cases hi) _ hgr.2.2
  have hall : ((AV.denL ρ fst).toArray ++ args.map a.eval) ++ (AV.denL ρ cap).toArray = AV.vals (fst ++ args.toList.map s.eval ++ cap) := by
    rw [vals_app, vals_app, ← hargs, e1, e2]
    have : args.map a.eval = (args.toList.map a.eval).toArray := by apply Array.ext'; simp
    rw [this]; rfl
  simp only [resolve, ef, AV.den, Deferred.ofValue, Sem.run_bind, Sem.run_pure, Result.andThen_ok, invoke]
  rw [hall]

theorem bui_run (hg : Gam c ρ s a w) {b : Builtin} {args : Array Operand} {ats : Array TypeId} {ty : TypeId} (hb : ∀ cs, builtin b ats ty cs (args.map a.eval) = builtin b ats 0 #[] (args.map a.eval))
    (hgr : AV.groundL (args.toList.map s.eval) = true) (P : Program) :
    ((do let d ← resolve a.eval { callee := .builtin b, args := args, argTypes := ats } ty; invoke d.target d.args : Sem Next)).run P w = (builtin b ats.toList.toArray 0 #[] (AV.vals (args.toList.map s.eval))).run P w := by
  have hargs := groundL_vals hg hgr
  have hargs' : args.map a.eval = AV.vals (args.toList.map s.eval) := by rw [← hargs]; apply Array.ext'; simp
  have hat : ats.toList.toArray = ats := by simp
  simp only [resolve, Sem.run_bind, Sem.run_pure, Result.andThen_ok, invoke]
  rw [hb, hat, hargs']

theorem eAsk_sound {up : Bool} {o : Oper} {p : Mem → AV → Prop} (h : eAsk c up o.op s.eval s.M p) : Effs PR c up o s p := by
  intro ρ a w hg
  unfold eAsk at h
  unfold execOp
  have hB : c.B0 ≤ w.heap.size := hg.fr.size
  split at h
  · rename_i f args ats ho
    rw [ho]
    split at h
    · rename_i g fst cap he
      dsimp only at h
      by_cases hgr : AV.groundL (fst ++ args.toList.map s.eval ++ cap) = true
      · rw [if_pos hgr] at h
        cases h with
        | mk h =>
          exact (congrArg (ResV PR _) (call_run (args := args) (ats := ats) (ty := o.type) hg he hgr PR)).mpr (h w hg.mem hB)
      · rw [if_neg hgr] at h; exact h.elim
    · exact h.elim
  · rename_i b args ats ho
    rw [ho]
    dsimp only at h
    by_cases hgr : AV.groundL (args.toList.map s.eval) = true
    · rw [if_pos hgr] at h
      split at h
      · cases h with
        | mk h =>
          exact (congrArg (ResV PR _) (bui_run (args := args) (ats := ats) (ty := o.type) hg (fun _ => rfl) hgr PR)).mpr (h w hg.mem hB)
      · cases h with
        | mk h =>
          exact (congrArg (ResV PR _) (bui_run (args := args) (ats := ats) (ty := o.type) hg (fun _ => rfl) hgr PR)).mpr (h w hg.mem hB)
      · exact h.elim
    · rw [if_neg hgr] at h; exact h.elim
  · exact h.elim

theorem opStep_sound {g : Bool} {m : Md} {o : Oper} {k : S → Prop} (hw : s.WF) (h : opStep c g m o s k) : TT PR IB c m o k s := by
  unfold opStep stepK at h
  unfold TT
  cases hk : kd o <;> simp only [hk] at h ⊢
  · have val : ∀ {r : AV}, vF o.op s.eval (s.drop m.avoid).ob = some r → r.wf s.live = true ∧ Reads PR c o (s.drop m.avoid) r ∧ valF TB o.op s.eval s.ob = some r := fun {r} hv => by
      have h1 := valF_drop (ids := m.avoid) hv
      refine ⟨valF_wf tb_ok hw h1, fun ρ a w hg => ?_, h1⟩
      have : valF TB o.op (s.drop m.avoid).eval (s.drop m.avoid).ob = some r := by rw [eval_drop]; exact hv
      exact val_sound tb_ok this hg
    split at h
    · rename_i b hv
      obtain ⟨h1, h2, h3⟩ := val hv
      have h1' : (AV.sb b).wf (s.drop m.avoid).live = true := rfl
      split at h
      · rename_i hc
        simp only [Bool.and_eq_true, Bool.not_eq_true'] at hc
        obtain ⟨ht, hf⟩ := h
        cases hb : b () with
        | true =>
          refine ⟨.tt, rfl, fun ρ a w hg => ?_, (fun e => by rw [hc.2] at e; cases e), fun _ _ => ht hb⟩
          obtain ⟨v, hv, hd⟩ := h2 ρ a w hg
          exact ⟨v, hv, .inr ((hd.out (by simp)).trans (by simp [AV.den, hb]))⟩
        | false =>
          refine ⟨.ff, rfl, fun ρ a w hg => ?_, (fun e => by rw [hc.2] at e; cases e), fun _ _ => hf hb⟩
          obtain ⟨v, hv, hd⟩ := h2 ρ a w hg
          exact ⟨v, hv, .inr ((hd.out (by simp)).trans (by simp [AV.den, hb]))⟩
      · exact ⟨_, h1', h2, fun _ => h3, fun _ _ => h⟩
    · rename_i r hv
      obtain ⟨h1, h2, h3⟩ := val (by assumption)
      split at h
      · rename_i hav; exact ⟨_, by rw [hav]; exact h1, h2, fun _ => h3, fun _ _ => h⟩
      · split at h
        · rename_i hwf; exact ⟨_, hwf, h2, fun _ => h3, fun _ _ => h⟩
        · exact h.elim
    · split at h
      · exact h.elim
      · rename_i hdet
        split at h
        · rename_i hav
          obtain ⟨r, h1, h2⟩ := rAsk_split h
          refine ⟨r, by rw [hav]; exact rAsk_wf hw h1, fun ρ a w hg => ?_, fun e => absurd e hdet, fun _ _ => h2⟩
          exact rAsk_sound hg rfl (by rw [eval_drop, S.drop_M]; exact h1)
        · obtain ⟨r, h1, h2⟩ := rAsk_split h
          split at h2
          · rename_i hwf
            refine ⟨r, hwf, fun ρ a w hg => ?_, fun e => absurd e hdet, fun _ _ => h2⟩
            exact rAsk_sound hg rfl (by rw [eval_drop, S.drop_M]; exact h1)
          · exact h2.elim
  · exact Effs.mono (eAsk_sound h) fun M' r _ _ _ _ _ _ _ hk _ _ => hk
  · split at h
    · rename_i n hn
      obtain ⟨h1, h2⟩ := h
      exact ⟨n, hn, h1, fun b hb hB _ _ => h2 b _ hb hB rfl⟩
    · exact h.elim
  · split at h
    · rename_i d T l hd hal
      split at h
      · rename_i hob
        split at h
        · rename_i hlt; exact ⟨d, T, l, hd, hal, hob, hlt, fun _ _ => h⟩
        · exact h.elim
      · exact h.elim
    · exact h.elim
  · split at h
    · rename_i t x y hd ho
      split at h
      · rename_i id off he
        split at h
        · rename_i j T l' hst
          split at h
          · rename_i hav
            simp only [Bool.or_eq_true] at hav
            exact .inr ⟨j, T, l', hd, hst, (fun hne => by
              rcases hav with hav | hav
              · exact absurd (List.isEmpty_iff.1 hav) hne
              · simpa using hav), fun _ _ => h⟩
          · exact h.elim
        · exact h.elim
      · rename_i b q he
        split at h
        · rename_i l ti hl hti
          split at h
          · rename_i hc
            obtain ⟨M', h1, h2⟩ := h
            obtain ⟨hc0, hc⟩ := hc
            refine .inl ⟨M', hd, List.isEmpty_iff.1 hc0, fun ρ a w hg => ?_, fun _ _ => h2⟩
            · obtain ⟨w', hw', hgr⟩ := h1 w hg.mem hg.fr.size
              refine ⟨w', ?_, hgr⟩
              have ex : a.eval (.tmp x) = .pointer (some ⟨b (), q (), none⟩) := hg.evalD (x := .tmp x) (y := .el b q) he (by simp)
              have hcells := AV.cellsA_den hl (hg.eval y)
              have hg2 := hc.2
              simp only [AV.groundL, Bool.and_eq_true] at hg2
              have hden : AV.denL ρ l = AV.denL (fun _ => 0) l := AV.denL_congr (p := fun _ => false) (fun i hi => by cases hi) l hg2.2
              have hty := tb_ok.ty t ti hti
              unfold execOp
              rw [ho]
              simp [Instr.storeAt, ex, Instr.sureAddr, storeVar, hty.run_sizeOf, hcells, hden, denL_length, hc.1, hw']
          · exact h.elim
        · exact h.elim
      · exact h.elim
    · exact h.elim

theorem guardL_eq {ops : List Oper} {o : Oper} : guardL ops o s = guardV ops.toArray o s := by
  unfold guardL guardV
  cases o.guard with
  | none => rfl
  | some p => simp only [List.getElem?_toArray]; rfl

theorem runOps_sound {ops : Unit → List Oper} {gs : List Nat} {mds : List (Nat × Md)} {k : S → Prop} : ∀ {l : List Nat} {s : S}, gamNE c s → s.WF → runOps c ops gs mds l s k → runG PR IB c (ops ()).toArray mds l k s
  | [], s, _, _, h => h
  | i :: l, s, hne, hw, h => by
    unfold runOps at h
    unfold runG TGi
    split at h
    · exact h.elim
    · rename_i o ho
      have ho' : (ops ()).toArray[i]? = some o := by simpa using ho
      simp only [ho']
      unfold TG
      rw [guardL_eq] at h
      split at h
      · rename_i hgv
        rw [hgv]
        exact TT.mono (fun s' hne' hw' _ hk => runOps_sound hne' hw' hk) (opStep_sound hw h)
      · rename_i hgv
        rw [hgv]
        exact fun hne' hw' => runOps_sound hne' hw' h
      · exact h.elim

end
end Go.SX
