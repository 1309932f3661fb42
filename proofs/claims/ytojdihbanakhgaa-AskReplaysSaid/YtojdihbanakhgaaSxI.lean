/- The executor is sound. -/
import Derived.Test.YtojdihbanakhgaaSxH
namespace Go.SX

section
variable {c : Ct} {ρ : Nat → Nat} {s : S} {a : Act} {w : World}

abbrev IB : Info := info TB

theorem eval_drop (s : S) (ids : List Nat) : (s.drop ids).eval = s.eval := by
  funext x
  cases x with
  | tmp t => simp only [S.eval, S.get, S.drop_tmps]
  | _ => rfl

theorem valF_drop {op : Op} {ids : List Nat} {r : AV} (h : valF TB op s.eval (s.drop ids).ob = some r) : valF TB op s.eval s.ob = some r := by
  cases op
  case load t y =>
    simp only [valF] at h ⊢
    split at h
    · rename_i id off he
      split at h
      · rename_i V q ti hob hti
        rw [S.drop_ob] at hob
        split at hob
        · cases hob
        · rw [hob, hti]; exact h
      · cases h
    · cases h
  case call q =>
    obtain ⟨cal, args, ats⟩ := q
    cases cal with
    | builtin b => cases b <;> exact h
    | value f => exact h
    | invoke r m => exact h
  case unOp op t y => cases op <;> exact h
  all_goals exact h

theorem Gam.evalD (h : Gam c ρ s a w) {x : Operand} {y : AV} (he : s.eval x = y) (hy : y ≠ .any) : a.eval x = y.den ρ := by
  rw [← he] at hy ⊢
  exact (h.eval x).out hy

theorem Gam.evalI (h : Gam c ρ s a w) {x : Operand} {k : IntKind} {n : Unit → Int} (he : (s.eval x).asI = some (k, n)) : a.eval x = .int k (n ()) := by
  obtain ⟨e1, e2⟩ := AV.asI_den (ρ := ρ) he
  exact ((h.eval x).out e1).trans e2

theorem sliceOf_den {x : AV} {p : (Unit → Option Addr) × (Unit → Nat) × (Unit → Nat)} (h : sliceOf x = some p) : x ≠ .any ∧ x.den ρ = .slice (p.1 ()) (p.2.1 ()) (p.2.2 ()) := by
  cases x <;> simp [sliceOf] at h <;> subst h <;> simp [AV.den]

theorem optI_spec (h : Gam c ρ s a w) {x : Option Operand} {r : Option (Unit → Int)} (hx : optI s.eval x = some r) : ∃ k, x.map a.eval = r.map (fun n => Value.int k (n ())) := by
  cases x with
  | none => simp [optI] at hx; subst hx; exact ⟨.i64, rfl⟩
  | some x =>
    simp only [optI] at hx
    split at hx
    · rename_i k n hn
      cases hx
      exact ⟨k, by simp [h.evalI hn]⟩
    · cases hx

theorem CellsAt.get {M : Mem} : ∀ {l : List Value} {b o j : Nat} {v : Value}, CellsAt M b o l → l[j]? = some v → M.cell b (o + j) = some v
  | [], _, _, _, _, _, h => by simp at h
  | x :: l, b, o, 0, v, h, hv => by simp at hv; subst hv; exact h.1
  | x :: l, b, o, j + 1, v, h, hv => by
    have := CellsAt.get (j := j) h.2 (by simpa using hv)
    rwa [Nat.add_assoc, Nat.add_comm 1 j] at this

theorem bitF_run {op : BinOp} {k : IntKind} {x y n : Int} (h : bitF op k x y = some n) {t : Nat} : (binOp op t (.int k x) (.int k y)).run PR w = .ok (.int k n) w := by
  cases op <;> simp only [bitF, reduceCtorEq] at h <;> cases h <;> simp [binOp, Op.intBits]

theorem sliceBound_run (k : IntKind) (i y : Nat) (code : BoundsCode) (h : i ≤ y) : (Instr.sliceBound (.int k (i : Int)) y code).run PR w = .ok i w := by
  have := run_sliceBound (P := PR) w k (i : Int) y code (by omega) (by omega)
  simpa using this

theorem rAsk_sound (hg : Gam c ρ s a w) {o : Oper} {r : AV} {q : AV → Prop} (hq : q = fun r' => r' = r) (h : rAsk o.op s.eval s.M q) : ∃ v, (execOp a.eval o).run PR w = .ok (.value v) w ∧ Den ρ r v := by
  subst hq
  unfold rAsk at h
  unfold execOp
  split at h
  -- load
  · rename_i t x ho
    rw [ho]
    split at h
    · rename_i b q i he hti
      have hi := tb_ok.ty t i hti
      have ex := hg.evalD he (by simp)
      split at h
      · rename_i hagg
        obtain ⟨l, h1, h2, h3, h4⟩ := h
        subst h4
        simp only [AV.groundL, Bool.and_eq_true] at h2
        have hd : AV.denL ρ l = AV.denL (fun _ => 0) l := AV.denL_congr (p := fun _ => false) (fun i hi => by cases hi) l h2.2
        have := run_loadVar_agg (w := w) hi hagg (b := b ()) (o := q ()) (l := AV.denL (fun _ => 0) l) (by rw [denL_length]; exact h1) (fun j v hv => Mem.cell_on hg.mem (h3.get hv))
        exact ⟨.agg (AV.denL (fun _ => 0) l).toArray, by simp [Instr.loadAt, ex, AV.den, Instr.sureAddr, this], .inr (by rw [AV.den, hd])⟩
      · rename_i hagg
        obtain ⟨r', h1, h2, h3⟩ := h
        subst h3
        have := run_loadVar_cell (w := w) hi (by simpa using hagg) (Mem.cell_on hg.mem h2)
        exact ⟨r'.val, by simp [Instr.loadAt, ex, AV.den, Instr.sureAddr, this], Den.of_ground h1 ρ⟩
    · exact h.elim
  -- indexAddr
  · rename_i t x i ho
    rw [ho]
    split at h
    · rename_i e kk n hk hi
      obtain ⟨ti, hti, hki, hty⟩ := typeInfo_map tb_ok hk
      have hd := tk_slice (hty.kind.trans hki)
      have ei := hg.evalI hi
      split at h
      · rename_i p l q te hs hte
        obtain ⟨e1, e2⟩ := sliceOf_den (ρ := ρ) hs
        have ex := hg.evalD rfl e1
        rw [e2] at ex
        have hsz := (tb_ok.ty e te hte).run_sizeOf (w := w)
        obtain ⟨b, o', j, h1, h2, h3, h4⟩ := h
        subst h4
        simp only at ex
        rw [h1] at ex
        refine ⟨.pointer (some ⟨b, o' + j * te.size, none⟩), ?_, .inr rfl⟩
        have hj : (0 : Int) ≤ j ∧ (j : Int) < (l () : Int) := ⟨by omega, by omega⟩
        simp [Instr.indexAt, ex, ei, h2, run_underlying hd, asIntOf, hsz, addr_add, h3]
      · exact h.elim
    · rename_i m e kk n hk hi
      obtain ⟨ti, hti, hki, hty⟩ := typeInfo_map tb_ok hk
      have hd := tk_arr (hty.kind.trans hki)
      have ei := hg.evalI hi
      split at h
      · rename_i id off te hx hte
        have ex := hg.evalD hx (by simp)
        have hsz := (tb_ok.ty e te hte).run_sizeOf (w := w)
        obtain ⟨j, h1, h2, h3⟩ := h
        subst h3
        refine ⟨.pointer (some ⟨ρ id, off + j * te.size, none⟩), ?_, .inr rfl⟩
        simp [Instr.indexAt, ex, ei, h1, h2, run_underlying hd, asIntOf, hsz, addr_add, AV.den, Instr.sureAddr]
      · exact h.elim
    · exact h.elim
  -- binOp
  · rename_i op t x y u ho
    rw [ho]
    split at h
    · rename_i k a' k' b' hx hy
      have ex := hg.evalI hx
      have ey := hg.evalI hy
      have fin : ∀ {n : Int}, (binOp op t (.int k (a' ())) (.int k' (b' ()))).run PR w = .ok (.int k n) w → r = .sym k (fun _ => n) → ∃ v, (do let v ← (do eqGuard op t x y (a.eval x) (a.eval y); binOp op t (a.eval x) (a.eval y)); pure (Next.value v) : Sem Next).run PR w = .ok (.value v) w ∧ Den ρ r v := fun {n} h1 h2 => by
        subst h2
        exact ⟨.int k n, by simp [ex, ey, eqGuard_int, h1], .inr rfl⟩
      split at h
      · split at h
        · rename_i e; subst e; obtain ⟨n, h1, h2⟩ := h; exact fin (by simp [binOp, Op.intArith, h1]) h2.symm
        · exact h.elim
      · split at h
        · rename_i e; subst e; obtain ⟨n, h1, h2⟩ := h; exact fin (by simp [binOp, Op.intArith, h1]) h2.symm
        · exact h.elim
      · split at h
        · rename_i e; subst e; obtain ⟨n, h1, h2⟩ := h; exact fin (by simp [binOp, Op.intArith, h1]) h2.symm
        · exact h.elim
      · split at h
        · rename_i e; subst e
          rcases h with ⟨n, h0, h1, h2, h3⟩ | ⟨n, h0, h1, h2, h3⟩
          · exact fin (by simp [binOp, Op.intDiv, h1, h2]) h3.symm
          · cases h0
        · exact h.elim
      · split at h
        · rename_i e; subst e
          rcases h with ⟨n, h0, h1, h2, h3⟩ | ⟨n, h0, h1, h2, h3⟩
          · cases h0
          · exact fin (by simp [binOp, Op.intDiv, h1, h2]) h3.symm
        · exact h.elim
      iterate 4
        (· split at h
           · rename_i e; subst e; obtain ⟨n, h1, h2⟩ := h; exact fin (bitF_run h1) h2.symm
           · exact h.elim)
      · rcases h with ⟨n, h0, h1, h2, h3⟩ | ⟨n, h0, h1, h2, h3⟩
        · exact fin (by simp [binOp, Op.shift, Int.not_lt.2 h1, h2]) h3.symm
        · cases h0
      · rcases h with ⟨n, h0, h1, h2, h3⟩ | ⟨n, h0, h1, h2, h3⟩
        · cases h0
        · exact fin (by simp [binOp, Op.shift, Int.not_lt.2 h1, h2]) h3.symm
      · exact h.elim
    · exact h.elim
  -- neg
  · rename_i t x ho
    rw [ho]
    split at h
    · rename_i k a' hx
      obtain ⟨n, h1, h2⟩ := h
      subst h2
      have ex := hg.evalI hx
      exact ⟨.int k n, by simp [Op.unary, ex, Op.intArith]; simpa using h1, .inr rfl⟩
    · exact h.elim
  -- convert
  · rename_i src dst x ho
    rw [ho]
    split at h
    · rename_i k0 a' k hx hsrc hk
      obtain ⟨n, h1, h2⟩ := h
      subst h2
      have ex := hg.evalI hx
      obtain ⟨ti, hti, hki, hty⟩ := typeInfo_map tb_ok hk
      have hd := tk_int (hty.kind.trans hki)
      obtain ⟨si, hsi⟩ := Option.isSome_iff_exists.1 hsrc
      obtain ⟨sd, hsd, _⟩ := (tb_ok.ty src si hsi).und'
      exact ⟨.int k n, by simp [convert, run_underlying hsd, run_underlying hd, ex, Conv.intToInt, h1], .inr rfl⟩
    · exact h.elim
  -- slice
  · rename_i t x lo hi mx ho
    rw [ho]
    split at h
    · rename_i e p l q lo' hi' mx' hk hs hlo hhi hmx
      obtain ⟨ti, hti, hki, hty⟩ := typeInfo_map tb_ok hk
      have hd := tk_slice (hty.kind.trans hki)
      obtain ⟨e1, e2⟩ := sliceOf_den (ρ := ρ) hs
      have ex := (hg.evalD rfl e1).trans e2
      obtain ⟨k1, el⟩ := optI_spec hg hlo
      obtain ⟨k2, eh⟩ := optI_spec hg hhi
      obtain ⟨k3, em⟩ := optI_spec hg hmx
      split at h
      · rename_i te hte
        have hsz := (tb_ok.ty e te hte).run_sizeOf (w := w)
        obtain ⟨L, H, M', h1, h2, h3, h4, h5, h6, h7, h8⟩ := h
        subst h8
        refine ⟨_, ?_, .inr rfl⟩
        have hb : (Instr.sliceBounds true (l ()) (q ()) (lo'.map fun n => .int k1 (n ())) (hi'.map fun n => .int k2 (n ())) (mx'.map fun n => .int k3 (n ()))).run PR w = .ok (L, H, M') w := by
          unfold Instr.sliceBounds
          cases mx' with
          | none =>
            simp at h3
            have h3' : q () = M' := by omega
            subst h3'
            cases hi' with
            | none =>
              simp at h2
              have h2' : l () = H := by omega
              subst h2'
              cases lo' with
              | none => simp at h1; have : L = 0 := by omega
                        subst this; simp
              | some n => simp at h1; simp [h1, sliceBound_run _ _ _ _ h5]
            | some n =>
              simp at h2
              cases lo' with
              | none => simp at h1; have : L = 0 := by omega
                        subst this; simp [h2, sliceBound_run _ _ _ _ h6]
              | some n' => simp at h1; simp [h1, h2, sliceBound_run _ _ _ _ h5, sliceBound_run _ _ _ _ h6]
          | some m =>
            simp at h3
            cases hi' with
            | none => exact absurd (h4 rfl) (by simp)
            | some n =>
              simp at h2
              cases lo' with
              | none => simp at h1; have : L = 0 := by omega
                        subst this; simp [h2, h3, sliceBound_run _ _ _ _ h6, sliceBound_run _ _ _ _ h7]
              | some n' => simp at h1; simp [h1, h2, h3, sliceBound_run _ _ _ _ h5, sliceBound_run _ _ _ _ h6, sliceBound_run _ _ _ _ h7]
        simp [Instr.sliceAt, run_underlying hd, Instr.slice, ex, el, eh, em, hb, hsz, AV.den]
      · exact h.elim
    · exact h.elim
  -- min
  · rename_i args ats ho
    rw [ho]
    split at h
    · rename_i x y hxy
      have hargs : args = #[x, y] := by apply Array.ext'; simpa using hxy
      subst hargs
      split at h
      · rename_i k a' k' b' hx hy
        subst h
        have ex := hg.evalI hx
        have ey := hg.evalI hy
        refine ⟨.int k (minF false (a' ()) (b' ())), ?_, .inr rfl⟩
        simp [resolve, invoke, builtin, Builtin.min_, Builtin.min2, ex, ey, minF]
      · exact h.elim
    · exact h.elim
  -- max
  · rename_i args ats ho
    rw [ho]
    split at h
    · rename_i x y hxy
      have hargs : args = #[x, y] := by apply Array.ext'; simpa using hxy
      subst hargs
      split at h
      · rename_i k a' k' b' hx hy
        subst h
        have ex := hg.evalI hx
        have ey := hg.evalI hy
        refine ⟨.int k (minF true (a' ()) (b' ())), ?_, .inr rfl⟩
        simp [resolve, invoke, builtin, Builtin.max_, Builtin.max2, ex, ey, minF]
      · exact h.elim
    · exact h.elim
  · rename_i t x i ho
    rw [ho]
    split at h
    · rename_i sv k n hk hx hi
      obtain ⟨b, j, m, h1, h2, h3, h4⟩ := h
      subst h4
      obtain ⟨ti, hti, htk, hok⟩ := typeInfo_map tb_ok hk
      obtain ⟨d, hd, hdk⟩ := hok.und'
      rw [htk] at hdk
      have hd := hd.trans (tk_str hdk)
      have ex : a.eval x = .string b := by rw [hg.evalD hx (by simp)]; exact h1
      have ei := hg.evalI hi
      rw [h2] at ei
      refine ⟨_, ?_, .inr rfl⟩
      simp [Instr.index, ex, ei, asIntOf, run_underlying hd, h3, AV.den]
    · exact h.elim
  · exact h.elim

end
end Go.SX
