/- The executor is sound, 3: the code's frame; how a function's contract is proved by it; loops; calls. -/
import Derived.Test.YtojdihbanakhgaaSxJ
import Derived.Handy
namespace Go.SX
open Go.RowKit (Below)

section
variable {c : Ct} {ρ : Nat → Nat} {s : S} {a : Act} {w : World} {f : Nat} {K : S → AV → Prop} {cs : List Frame}

theorem Fin.steps {m m' : Machine} (h : Steps PR m m') (h' : Fin f cs c K m') : Fin f cs c K m := by
  obtain ⟨v, w', fr, h1, h2, h3⟩ := h'
  exact ⟨v, w', fr, h1, h.trans h2, h3⟩

/-- The results are read. -/
def resOne (tmps : Array Value) : ResultVar → Sem Value
  | .tmp t => pure (tmps.getD t undef)
  | .cell a t => do loadVar t (← asAddr (tmps.getD a undef))

theorem resA_run (hg : Gam c ρ s a w) : ∀ {rs : List ResultVar} {l : List AV}, resA s rs = some l → AV.sureL l = true → (rs.mapM (resOne a.tmps)).run PR w = .ok (AV.denL ρ l) w
  | [], l, h, _ => by simp [resA] at h; subst h; rfl
  | .tmp t :: rs, l, h, hs => by
    simp only [resA, Option.map_eq_some_iff] at h
    obtain ⟨k, hk, rfl⟩ := h
    simp only [AV.sureL, Bool.and_eq_true] at hs
    have hd := (hg.tmp t).out fun e => by rw [e] at hs; cases hs.1
    rw [List.mapM_cons]
    simp only [resOne, pure_bind, Sem.run_bind, resA_run hg hk hs.2, Result.andThen_ok, Sem.run_pure, AV.denL, hd]
  | .cell x t :: rs, l, h, hs => by
    simp only [resA] at h
    split at h
    · rename_i r k hr hk
      cases h
      simp only [AV.sureL, Bool.and_eq_true] at hs
      have hld : (do let v ← loadVar t (← asAddr (a.tmps.getD x undef)); pure v : Sem Value).run PR w = .ok (r.den ρ) w := by
        have hv := val_sound (o := { dst := none, op := .load t (.tmp x), type := 0, pos := "", after := #[], guard := none }) tb_ok hr hg
        obtain ⟨v, h1, h2⟩ := hv
        have hd := h2.out fun e => by rw [e] at hs; cases hs.1
        subst hd
        unfold vF valF at hr
        simp only at hr
        split at hr
        · rename_i id off he
          have ex : a.tmps.getD x undef = .pointer (some ⟨ρ id, off, none⟩) := hg.evalD (x := .tmp x) he (by simp)
          have ex' : a.eval (.tmp x) = .pointer (some ⟨ρ id, off, none⟩) := ex
          simp only [execOp, Instr.loadAt, ex', Instr.sureAddr, pure_bind, Sem.run_bind] at h1
          rw [ex]
          simp only [asAddr, pure_bind]
          generalize (loadVar t ⟨ρ id, off, none⟩).run PR w = res at h1
          cases res with
          | ok v' w' =>
            simp only [Result.andThen_ok, Sem.run_pure, Result.ok.injEq, Next.value.injEq] at h1
            obtain ⟨rfl, rfl⟩ := h1
            rfl
          | halt x' w' => cases h1
        · cases hr
      rw [List.mapM_cons]
      have hld' : (resOne a.tmps (.cell x t)).run PR w = .ok (r.den ρ) w := by simpa [resOne] using hld
      simp only [Sem.run_bind, hld', resA_run hg hk hs.2, Result.andThen_ok, Sem.run_pure, AV.denL]
    · cases h

theorem results_run {fn : Func} {rs : List ResultVar} (hres : fn.results.toList = rs) (hg : Gam c ρ s a w) {l : List AV} (h : resA s rs = some l) (hs : AV.sureL l = true) :
    (results fn a.tmps).run PR w = .ok (match l with | [r] => r.den ρ | l => (AV.tup l).den ρ) w := by
  have h1 := resA_run hg h hs
  have hfun : results fn a.tmps = (do
      let vs ← fn.results.mapM (resOne a.tmps)
      pure (if h : vs.size = 1 then vs[0] else .tuple vs)) := by
    unfold results
    congr 1
  rw [hfun, Array.mapM_eq_mapM_toList, hres]
  simp only [map_eq_pure_bind, bind_assoc, pure_bind, Sem.run_bind, h1, Result.andThen_ok, Sem.run_pure]
  match l with
  | [] => simp [AV.denL, AV.den]
  | [r] => simp [AV.denL]
  | r :: r' :: l => simp [AV.denL, AV.den]

theorem resK_sound {fn : Func} {rs : List ResultVar} (hf : PR.funcs[f]? = some fn) (hres : fn.results.toList = rs) (h : resK K rs s) {b : Frame} (hbf : b.fn = f) (hbk : b.kind = .normal) (hw : s.WF) (hg : Gam c ρ s a w) (todo : List Item) :
    Fin f cs c K (lone { b.at a todo with mode := .returning } cs w) := by
  unfold resK at h
  have fin : ∀ {r : AV}, (results fn a.tmps).run PR w = .ok (r.den ρ) w → r.sure = true → K s r → Fin f cs c K (lone { b.at a todo with mode := .returning } cs w) := fun {r} h1 h2 h3 =>
    ⟨r.den ρ, w, _, ⟨ρ, s, r, a, hw, hg, rfl, h2, h3⟩, Steps.refl PR _, hbf, rfl, hg.defers, hbk, fn, (by simpa [Frame.at, hbf] using hf), h1⟩
  split at h
  · rename_i r hr
    split at h
    · rename_i hs
      exact fin (results_run hres hg hr (by simp [AV.sureL, hs])) hs h
    · exact h.elim
  · rename_i l hne hl
    split at h
    · rename_i hs
      have := results_run hres hg hl hs
      refine fin (r := .tup l) ?_ (by simpa [AV.sure] using hs) h
      rw [this]
      match l, hne with
      | [], _ => rfl
      | [r], hne => exact absurd rfl (hne r)
      | r :: r' :: l, _ => rfl
    · exact h.elim
  · exact h.elim

/-- Each region's order serves it. -/
def Q.ok : Q → Bool
  | .region _ ops _ draw ord mds =>
    let o := (ops ()).toArray
    if draw then Region.noSelect o && decide (ord.length = o.size) && chkOrd o mds (befsL (ops ()) []) ord (Array.replicate o.size false) else decide (ord = List.range o.size)
  | .seq a b => (a ()).ok && (b ()).ok
  | .cond _ a b => (a ()).ok && (b ()).ok
  | .block _ b => (b ()).ok
  | .loop b => (b ()).ok
  | .stop q => (q ()).ok
  | _ => true

def itOk : It → Bool
  | .code q | .inLoop q => (q ()).ok
  | .inBlock _ => true

theorem all_code {q : Unit → Q} {r : List It} (h1 : (q ()).ok = true) (h2 : r.all itOk = true) : (It.code q :: r).all itOk = true := by
  rw [List.all_cons, h2, Bool.and_true]; exact h1
theorem all_block {id : Nat} {r : List It} (h2 : r.all itOk = true) : (It.inBlock id :: r).all itOk = true := by
  rw [List.all_cons, h2]; rfl

theorem exitAt_spec : ∀ {id : Nat} {r k : List It}, exitAt id r = some k → exitTo id (r.map It.item) = some (k.map It.item) ∧ (r.all itOk = true → k.all itOk = true)
  | id, [], k, h => by cases h
  | id, .inBlock i :: r, k, h => by
    simp only [exitAt] at h
    simp only [List.map_cons, It.item, exitTo]
    split at h
    · rename_i e; rw [if_pos e]; cases h; exact ⟨rfl, fun hr => by rw [List.all_cons, Bool.and_eq_true] at hr; exact hr.2⟩
    · rename_i e; rw [if_neg e]
      obtain ⟨h1, h2⟩ := exitAt_spec h
      exact ⟨h1, fun hr => h2 (by simp at hr ⊢; exact hr.2)⟩
  | id, .code q :: r, k, h => by
    obtain ⟨h1, h2⟩ := exitAt_spec (r := r) h
    exact ⟨h1, fun hr => h2 (by simp at hr ⊢; exact hr.2)⟩
  | id, .inLoop q :: r, k, h => by
    obtain ⟨h1, h2⟩ := exitAt_spec (r := r) h
    exact ⟨h1, fun hr => h2 (by simp at hr ⊢; exact hr.2)⟩

theorem OKS.of_step {f : Nat} {c : Ct} {K : S → AV → Prop} {stk stk' : List It} {s : S} (h : ∀ (b : Frame) (cs : List Frame) (a : Act) (w : World), step PR (lone (b.at a (stk.map It.item)) cs w) = .next (lone (b.at a (stk'.map It.item)) cs w))
    (h' : OKS f c K stk' s) : OKS f c K stk s := ⟨fun b cs ρ a w h1 h2 h3 h4 => Fin.steps (.one (h b cs a w)) (h'.ok b cs ρ a w h1 h2 h3 h4)⟩

theorem OKS.congr {f : Nat} {c : Ct} {K : S → AV → Prop} {stk stk' : List It} {s : S} (h : stk.map It.item = stk'.map It.item) (h' : OKS f c K stk' s) : OKS f c K stk s :=
  ⟨fun b cs ρ a w h1 h2 h3 h4 => by rw [h]; exact h'.ok b cs ρ a w h1 h2 h3 h4⟩

theorem run_sound {fn : Func} {rs : List ResultVar} (hf : PR.funcs[f]? = some fn) (hres : fn.results.toList = rs) :
    ∀ (n : Nat) (stk : List It) (s : S), stk.all itOk = true → run rs f c K n stk s → OKS f c K stk s
  | 0, stk, s, _, h => by unfold run at h; exact h
  | n + 1, [], s, _, h => by
    unfold run at h
    exact ⟨fun b cs ρ a w h1 h2 h3 h4 => Fin.steps (.one step_end) (resK_sound hf hres h h1 h2 h3 h4 [])⟩
  | n + 1, .inBlock id :: r, s, ho, h => by
    unfold run at h
    exact OKS.of_step (stk' := r) (fun b cs a w => step_inBlock) (run_sound hf hres n r s (by simp at ho ⊢; exact ho.2) h)
  | n + 1, .inLoop q :: r, s, ho, h => by unfold run at h; exact h
  | n + 1, .code q :: r, s, ho, h => by
    have hr : r.all itOk = true := by simp at ho ⊢; exact ho.2
    have hq : (q ()).ok = true := by simp [itOk] at ho; exact ho.1
    have hit : (It.code q).item = .code (q ()).code := rfl
    unfold run at h
    refine OKS.congr (stk' := .code (fun _ => q ()) :: r) rfl ?_
    generalize q () = x at *
    cases x with
    | skip => exact OKS.of_step (stk' := r) (fun b cs a w => step_skip) (run_sound hf hres n r s hr h)
    | seq x y =>
      simp only [Q.ok, Bool.and_eq_true] at hq
      exact OKS.of_step (stk' := .code x :: .code y :: r) (fun b cs a w => step_seq) (run_sound hf hres n _ s (all_code hq.1 (all_code hq.2 hr)) h)
    | cond x p q =>
      simp only at h
      simp only [Q.ok, Bool.and_eq_true] at hq
      have hp : ∀ {t : Bool}, (∀ ρ a w, Gam c ρ s a w → a.eval x = .bool t) → run rs f c K n (.code (if t then p else q) :: r) s → OKS f c K (.code (fun _ => .cond x p q) :: r) s := fun {t} he hk => by
        have h1 := run_sound hf hres n _ s (all_code (by cases t <;> simp [hq]) hr) hk
        refine ⟨fun b cs ρ a w k1 k2 k3 k4 => Fin.steps (.one ?_) (h1.ok b cs ρ a w k1 k2 k3 k4)⟩
        have := step_cond (P := PR) (b := b) (a := a) (k := r.map It.item) (cs := cs) (w := w) (x := (p ()).code) (y := (q ()).code) (he ρ a w k4)
        cases t <;> exact this
      split at h
      · rename_i e; exact hp (t := true) (fun ρ a w hg => hg.evalD e (by simp)) h
      · rename_i e; exact hp (t := false) (fun ρ a w hg => hg.evalD e (by simp)) h
      · rename_i b e
        obtain ⟨ht, hff⟩ := h
        cases hb : b () with
        | true => exact hp (t := true) (fun ρ a w hg => (hg.evalD e (by simp)).trans (by rw [AV.den, hb])) (ht hb)
        | false => exact hp (t := false) (fun ρ a w hg => (hg.evalD e (by simp)).trans (by rw [AV.den, hb])) (hff hb)
      · exact h.elim
    | block id x =>
      simp only [Q.ok] at hq
      exact OKS.of_step (stk' := .code x :: .inBlock id :: r) (fun b cs a w => step_block) (run_sound hf hres n _ s (all_code hq (all_block hr)) h)
    | exit id =>
      simp only at h
      split at h
      · rename_i k hk
        obtain ⟨h1, h2⟩ := exitAt_spec hk
        exact OKS.of_step (stk' := k) (fun b cs a w => step_exit h1) (run_sound hf hres n k s (h2 hr) h)
      · exact h.elim
    | loop x => exact h
    | stop x => exact OKS.congr (stk' := .code x :: r) rfl h
    | ret => exact ⟨fun b cs ρ a w h1 h2 h3 h4 => Fin.steps (.one step_ret) (resK_sound hf hres h h1 h2 h3 h4 _)⟩
    | region id ops gs draw ord mds =>
      refine ⟨fun b cs ρ a w h1 h2 h3 h4 => ?_⟩
      have hwp : (Code.region id (ops ()).toArray draw).wp PR (Past c fun s => run rs f c K n r s) a w := by
        cases draw with
        | true =>
          simp only [Q.ok, if_true, Bool.and_eq_true, decide_eq_true_eq] at hq
          exact region_draw ib_ok follows_ok hq.1.1 hq.1.2 hq.2 h4 h3 (runOps_sound h4.ne h3 h)
        | false =>
          simp only [Q.ok, Bool.false_eq_true, if_false, decide_eq_true_eq] at hq
          have h' := runOps_sound h4.ne h3 h
          rw [hq] at h'
          exact region_text ib_ok h4 h3 h'
      obtain ⟨e, a', w', ⟨rfl, ρ', s', hw', hg', hk⟩, harr⟩ := hwp b (r.map It.item) cs
      exact Fin.steps harr ((run_sound hf hres n r s' hr hk).ok b cs ρ' a' w' h1 h2 hw' hg')

end
end Go.SX
