/- The reading of the syntax is sound. Generic over the program. -/
import Derived.Test.YtojdihbanakhgaaSxD
namespace Go.SX

section
variable {P : Program} {T : Tbl} {c : Ct} {ρ : Nat → Nat} {s : S} {a : Act} {w : World}

theorem Den.out {x : AV} {v : Value} (h : Den ρ x v) (hx : x ≠ .any) : v = x.den ρ := h.resolve_left hx

theorem AV.cellsA_den {x : AV} {l : List AV} {v : Value} (h : x.cellsA = some l) (hd : Den ρ x v) : v.cells = (AV.denL ρ l).toArray := by
  have hx : x ≠ .any := fun e => by subst e; simp [AV.cellsA] at h
  have e := hd.out hx
  cases x <;> simp [AV.cellsA] at h <;> subst h <;> subst e <;> simp [AV.den, AV.denL, Value.cells]

theorem AV.cellsA_wf {x : AV} {l : List AV} (p : Nat → Bool) (h : x.cellsA = some l) (hx : x.wf p = true) : AV.wfL p l = true := by
  cases x <;> simp [AV.cellsA] at h <;> subst h <;> simp_all [AV.wf, AV.wfL]

/-! ### Types -/

theorem TyOk.und' {t : Nat} {i : TI} (h : TyOk P t i) : ∃ d, P.underlying t = some d ∧ tkOf P (some d) = i.k := by
  obtain ⟨d, hd⟩ := Option.isSome_iff_exists.1 h.und
  exact ⟨d, hd, hd ▸ h.kind⟩

theorem TyOk.run_isAgg {t : Nat} {i : TI} (h : TyOk P t i) : (isAgg t).run P w = .ok i.k.agg w := by
  obtain ⟨d, hd, hk⟩ := h.und'
  rw [← hk]
  cases d <;> simp [isAgg, run_underlying hd, tkOf, TK.agg]

theorem TyOk.info' {t : Nat} {i : TI} (h : TyOk P t i) : ∃ x z, P.info? t = some x ∧ x.size = i.size ∧ x.bytes = i.bytes ∧ x.zero = some z ∧ z.cells.toList = AV.denL (fun _ => 0) i.zero := by
  have := h.info
  cases hx : P.info? t with
  | none => simp [hx] at this
  | some x =>
    simp only [hx, Option.map_some, Option.some.injEq, Prod.mk.injEq] at this
    obtain ⟨h1, h2, h3⟩ := this
    cases hz : x.zero with
    | none => simp [hz] at h3
    | some z => simp only [hz, Option.map_some, Option.some.injEq] at h3; exact ⟨x, z, rfl, h1, h2, hz, h3⟩

theorem TyOk.run_sizeOf {t : Nat} {i : TI} (h : TyOk P t i) : (sizeOf t).run P w = .ok i.size w := by
  obtain ⟨x, z, h1, h2, _⟩ := h.info'
  simp [sizeOf, typeInfo, h1, h2]

theorem TyOk.run_zeroValue {t : Nat} {i : TI} (h : TyOk P t i) : ∃ z, (zeroValue t).run P w = .ok z w ∧ z.cells.toList = AV.denL (fun _ => 0) i.zero := by
  obtain ⟨x, z, h1, _, _, h4, h5⟩ := h.info'
  exact ⟨z, by simp [zeroValue, typeInfo, h1, h4], h5⟩

theorem zero_den {t : Nat} {i : TI} (h : TyOk P t i) (ρ : Nat → Nat) : AV.denL ρ i.zero = AV.denL (fun _ => 0) i.zero := by
  refine AV.denL_congr (p := fun _ => false) (fun i hi => by cases hi) _ ?_
  rw [AV.wfL_eq, List.all_eq_true]
  intro x hx
  exact AV.ground_wf (List.all_eq_true.1 h.ground x hx) _

theorem zero_wf {t : Nat} {i : TI} (h : TyOk P t i) (p : Nat → Bool) : AV.wfL p i.zero = true := by
  rw [AV.wfL_eq, List.all_eq_true]
  intro x hx
  exact AV.ground_wf (List.all_eq_true.1 h.ground x hx) p

theorem tk_int {d : Option TypeDesc} {k : IntKind} (h : tkOf P d = .int k) : d = some (.int k) := by
  cases d with
  | none => simp [tkOf] at h
  | some d => cases d <;> simp [tkOf] at h; subst h; rfl
theorem tk_bool {d : Option TypeDesc} (h : tkOf P d = .bool) : d = some .bool := by
  cases d with
  | none => simp [tkOf] at h
  | some d => cases d <;> simp [tkOf] at h; rfl
theorem tk_str {d : Option TypeDesc} (h : tkOf P d = .str) : d = some .string := by
  unfold tkOf at h
  split at h <;> first | rfl | cases h
theorem tk_slice {d : Option TypeDesc} {e : Nat} (h : tkOf P d = .slice e) : d = some (.slice e) := by
  cases d with
  | none => simp [tkOf] at h
  | some d => cases d <;> simp [tkOf] at h; subst h; rfl
theorem tk_arr {d : Option TypeDesc} {n e : Nat} (h : tkOf P d = .arr n e) : d = some (.array n e) := by
  cases d with
  | none => simp [tkOf] at h
  | some d => cases d <;> simp [tkOf] at h; obtain ⟨rfl, rfl⟩ := h; rfl
theorem tk_struct {d : Option TypeDesc} {fs : List FI} (h : tkOf P d = .struct fs) : ∃ f : Array Field, d = some (.struct f) ∧ fs = f.toList.map fun f => ⟨f.offset, P.cellsOf f.type, aggD (P.underlying f.type), (P.underlying f.type).isSome⟩ := by
  cases d with
  | none => simp [tkOf] at h
  | some d => cases d <;> simp [tkOf] at h; exact ⟨_, rfl, h.symm⟩

theorem cellsOf_size {t n : Nat} (h : P.cellsOf t = n) (hn : n ≠ 0) : (sizeOf t).run P w = .ok n w := by
  unfold Program.cellsOf at h
  cases hx : P.info? t with
  | none => simp [hx] at h; omega
  | some x => simp [hx] at h; simp [sizeOf, typeInfo, hx, h]

theorem aggD_run {t : Nat} (h : (P.underlying t).isSome = true) : (isAgg t).run P w = .ok (aggD (P.underlying t)) w := by
  obtain ⟨d, hd⟩ := Option.isSome_iff_exists.1 h
  cases d <;> simp [isAgg, run_underlying hd, aggD, hd]

theorem und_of_cells {t : Nat} (h : aggD (P.underlying t) = true) : (P.underlying t).isSome = true := by
  cases hd : P.underlying t with
  | none => simp [hd, aggD] at h
  | some d => rfl

/-! ### Cells of local variables -/

theorem ob_cell (hg : Gam c ρ s a w) {id U : Nat} {l : List AV} (ho : s.ob id = .cells U l) :
    ∃ cs : List Value, w.heap[ρ id]? = some (.cells cs.toArray U (0, 0)) ∧ DenL ρ l cs ∧ ∀ o, w.cell? ⟨ρ id, o, none⟩ = cs[o]? := by
  obtain ⟨cs, h1, h2, _⟩ := hg.ob id U l ho
  exact ⟨cs, h1, h2, fun o => by simp [World.cell?, h1]⟩

theorem addr_add (b o j : Nat) : (⟨b, o, none⟩ : Addr).add j = ⟨b, o + j, none⟩ := by unfold Addr.add; split <;> simp_all

theorem run_loadVar_cell {t : Nat} {i : TI} (h : TyOk P t i) (hk : i.k.agg = false) {b o : Nat} {v : Value} (hc : w.cell? ⟨b, o, none⟩ = some v) : (loadVar t ⟨b, o, none⟩).run P w = .ok v w := by
  simp [loadVar, h.run_isAgg, hk, hc]

theorem run_loadVar_agg {t : Nat} {i : TI} (h : TyOk P t i) (hk : i.k.agg = true) {b o : Nat} {l : List Value} (hl : l.length = i.size) (hc : ∀ j v, l[j]? = some v → w.cell? ⟨b, o + j, none⟩ = some v) :
    (loadVar t ⟨b, o, none⟩).run P w = .ok (.agg l.toArray) w := by
  have := run_loadCells_list (P := P) w ⟨b, o, none⟩ l (fun j v hv => by rw [addr_add]; exact hc j v hv)
  simp [loadVar, h.run_isAgg, hk, h.run_sizeOf, ← hl, this]

/-! ### Comparisons -/

theorem AV.asI_den {x : AV} {k : IntKind} {n : Unit → Int} (h : x.asI = some (k, n)) : x ≠ .any ∧ x.den ρ = .int k (n ()) := by
  cases x <;> simp [AV.asI] at h <;> obtain ⟨rfl, rfl⟩ := h <;> simp [AV.den]

theorem cmpF_run {op : BinOp} {k : IntKind} {x y : Int} {r : Bool} (h : cmpF op x y = some r) {t : Nat} : (binOp op t (.int k x) (.int k y)).run P w = .ok (.bool r) w := by
  have hne : (x != y) = decide (x ≠ y) := by by_cases h : x = y <;> simp [h]
  cases op <;> simp only [cmpF, reduceCtorEq] at h <;> cases h
  · simp [binOp, Op.intCmp]; rfl
  · simp only [binOp, Op.intCmp, hne]; simp
  · simp [binOp, Op.intCmp]
  · simp [binOp, Op.intCmp]
  · simp [binOp, Op.intCmp]
  · simp only [binOp, Op.intCmp]; simp

theorem AV.ofB_den (b : Bool) : (AV.ofB b).den ρ = .bool b := by cases b <;> rfl
theorem AV.ofB_wf (b : Bool) (p : Nat → Bool) : (AV.ofB b).wf p = true := by cases b <;> rfl

theorem AV.lit_den {x : AV} {k : IntKind} {n : Int} (h : x.lit = some (k, n)) : x ≠ .any ∧ x.den ρ = .int k n := by
  cases x <;> simp [AV.lit] at h; obtain ⟨rfl, rfl⟩ := h; simp [AV.den]

theorem cmpA_sound {op : BinOp} {x y r : AV} {u v : Value} (h : cmpA op x y = some r) (hx : Den ρ x u) (hy : Den ρ y v) (t : Nat) : ∃ z, (binOp op t u v).run P w = .ok z w ∧ Den ρ r z := by
  unfold cmpA at h
  split at h
  · rename_i h1 h2
    obtain ⟨e1, d1⟩ := AV.lit_den (ρ := ρ) h1
    obtain ⟨e2, d2⟩ := AV.lit_den (ρ := ρ) h2
    rw [hx.out e1, hy.out e2, d1, d2]
    split at h
    · rename_i e
      subst e
      obtain ⟨z, hz, rfl⟩ := Option.map_eq_some_iff.1 h
      exact ⟨_, cmpF_run hz, .inr (AV.ofB_den z).symm⟩
    · cases h
  · split at h
    · rename_i h1 h2
      obtain ⟨e1, d1⟩ := AV.asI_den (ρ := ρ) h1
      obtain ⟨e2, d2⟩ := AV.asI_den (ρ := ρ) h2
      rw [hx.out e1, hy.out e2, d1, d2]
      split at h
      · rename_i e
        subst e
        unfold cmpS at h
        cases op <;> simp only [reduceCtorEq] at h <;> cases h <;> exact ⟨_, cmpF_run rfl, .inr rfl⟩
      · cases h
    · cases h

theorem intsA_spec : ∀ {ks : List IntKind} {l : List AV} {ns : List (Unit → Int)}, intsA ks l = some ns → AV.denL ρ l = mkInts ks (appU ns) ∧ (appU ns).length = ks.length
  | [], [], ns, h => by simp [intsA] at h; subst h; exact ⟨rfl, rfl⟩
  | k :: ks, x :: l, ns, h => by
    simp only [intsA] at h
    cases hx : x.asI with
    | none => simp [hx] at h
    | some p =>
      obtain ⟨k', n⟩ := p
      simp only [hx] at h
      split at h
      · rename_i e; subst e
        cases hr : intsA ks l with
        | none => simp [hr] at h
        | some ms =>
          simp [hr] at h; subst h
          obtain ⟨h1, h2⟩ := intsA_spec hr
          exact ⟨by simp [AV.denL, appU, mkInts, h1, (AV.asI_den (ρ := ρ) hx).2], by simp [appU, h2]⟩
      · cases h
  | [], _ :: _, _, h => by simp [intsA] at h
  | _ :: _, [], _, h => by simp [intsA] at h

theorem litsA_spec : ∀ {ks : List IntKind} {l : List AV} {ns : List (Unit → Int)} {ms : List Int}, intsA ks l = some ns → litsA l = some ms → appU ns = ms
  | [], [], ns, ms, h, h' => by simp [intsA] at h; simp [litsA] at h'; subst h; subst h'; rfl
  | k :: ks, x :: l, ns, ms, h, h' => by
    simp only [intsA] at h
    cases x <;> simp [litsA] at h'
    rename_i k' n
    simp only [AV.asI] at h
    split at h
    · cases hr : intsA ks l with
      | none => simp [hr] at h
      | some q =>
        cases hl : litsA l with
        | none => simp [hl] at h'
        | some m => simp [hr] at h; simp [hl] at h'; subst h; subst h'; simp [appU, litsA_spec hr hl]
    · cases h
  | [], _ :: _, _, _, h, _ => by simp [intsA] at h
  | _ :: _, [], _, _, h, _ => by simp [intsA] at h

theorem eqA_sound (hT : TblOk P T) {t : Nat} {ks : List IntKind} (hk : T.eqk t = some ks) {neg : Bool} {x y : List AV} {r : AV} (h : eqA ks neg x y = some r) :
    (binOp (if neg then .neq else .eql) t (.agg (AV.denL ρ x).toArray) (.agg (AV.denL ρ y).toArray)).run P w = .ok (r.den ρ) w ∧ r ≠ .any := by
  unfold eqA at h
  split at h
  · rename_i m n hm hn
    obtain ⟨e1, l1⟩ := intsA_spec (ρ := ρ) hm
    obtain ⟨e2, l2⟩ := intsA_spec (ρ := ρ) hn
    have hrun := (hT.eqk t ks hk).2 (appU m) (appU n) l1 l2 w
    rw [e1, e2]
    have hb : ∀ b : Bool, (binOp (if neg then .neq else .eql) t (.agg (mkInts ks (appU m)).toArray) (.agg (mkInts ks (appU n)).toArray)).run P w = .ok (.bool (decide (appU m = appU n) != neg)) w := fun _ => by
      cases neg <;> simp [binOp, hrun]
    rw [hb true]
    split at h
    · rename_i p q hp hq
      cases h
      rw [AV.ofB_den, litsA_spec hm hp, litsA_spec hn hq]
      exact ⟨rfl, by unfold AV.ofB; split <;> simp⟩
    · cases h
      cases neg <;> simp [AV.den]
  · cases h

theorem boolA_sound {neg : Bool} {x y r : AV} (h : boolA neg x y = some r) {t : Nat} (ht : P.underlying t = some .bool) : (binOp (if neg then .neq else .eql) t (x.den ρ) (y.den ρ)).run P w = .ok (r.den ρ) w ∧ r ≠ .any ∧ x ≠ .any ∧ y ≠ .any := by
  have key : ∀ a b : Bool, (binOp (if neg then .neq else .eql) t (.bool a) (.bool b)).run P w = .ok (.bool ((a == b) != neg)) w := fun a b => by
    cases neg <;> simp [binOp, run_equal_bool w t a b ht]
  unfold boolA at h
  split at h <;> first
    | (cases h; done)
    | (obtain rfl := Option.some.inj h
       simp only [AV.den, key]
       refine ⟨?_, ?_, by simp, by simp⟩
       · cases neg <;> simp [AV.ofB, AV.den, bne]
       · cases neg <;> simp [AV.ofB])

theorem litF_run {op : BinOp} {k : IntKind} {x y z : Int} (h : litF op k x y = some z) {t : Nat} : (binOp op t (.int k x) (.int k y)).run P w = .ok (.int k z) w := by
  cases op <;> simp [litF] at h <;> subst h <;> simp [binOp, Op.intArith]

end
end Go.SX
