/- Lists of one's own; slices.Clone. -/
import Derived.Test.YtojdihbanakhgaaAgJ
namespace Go.SX
open Go.Proofs.Try Go.Proofs

/-! ### Lists of one's own -/

section
variable {α : Type} {c : Ct} {M M' : Mem} {R : ElR α} {e sz : Nat} {a : Option Addr} {n cap : Nat} {l : List α}

/-- A slice over a row of one's own that reads as a list. -/
def OwnL (R : ElR α) (c : Ct) (M : Mem) (e sz : Nat) (a : Option Addr) (n cap : Nat) (l : List α) : Prop :=
  n = l.length ∧ ∃ cs : List (List Value), Own c M e sz a n cap cs.flatten ∧ All2 (fun c x => c.length = sz ∧ R M c x) cs l

theorem OwnL.nil : OwnL R c M e sz none 0 0 [] := ⟨rfl, [], Own.nil .., trivial⟩
theorem OwnL.rd (h : OwnL R c M e sz a n cap l) : RdL R sz M a n cap l := let ⟨h0, _, h1, h2⟩ := h; h1.rd rfl h2 h0

theorem Own.keep {xs : List Value} (h : Own c M e sz a n cap xs) (hk : ∀ b, M b ≠ none → M' b = M b) : Own c M' e sz a n cap xs :=
  ⟨h.len, h.row.imp_right fun ⟨g, h1, h2, h3, h4, h5⟩ => ⟨g, h1, h2, by rw [hk g (by rw [h3]; simp)]; exact h3, h4, h5⟩⟩
theorem le_of_keep (hk : ∀ b, M b ≠ none → M' b = M b) : M.le M' := fun b f hb => ⟨f, (hk b (by rw [hb]; simp)).trans hb, f.le_refl⟩
theorem OwnL.keep (hR : R.Up) (h : OwnL R c M e sz a n cap l) (hk : ∀ b, M b ≠ none → M' b = M b) : OwnL R c M' e sz a n cap l :=
  let ⟨h0, cs, h1, h2⟩ := h
  ⟨h0, cs, h1.keep hk, h2.mono fun c x ⟨k1, k2⟩ => ⟨k1, hR _ _ (le_of_keep hk) c x k2⟩⟩
theorem keep_set {b : Nat} {f : Frag} (hb : M b = none) : ∀ i, M i ≠ none → (M.set b f) i = M i := fun i hi => by
  have : i ≠ b := fun e => by subst e; exact hi hb
  simp [Mem.set, this]
theorem keep_trans {N : Mem} (h : ∀ b, M b ≠ none → M' b = M b) (h' : ∀ b, M' b ≠ none → N b = M' b) : ∀ b, M b ≠ none → N b = M b := fun b hb => by
  have := h b hb
  rw [h' b (by rw [this]; exact hb), this]
theorem Keeps.keep (h : Keeps noL M M') : ∀ b, M b ≠ none → M' b = M b := fun b hb => h b hb rfl

theorem RdL.one (_hc : ∀ cs x, R M cs x → True) {cs : List Value} {x : α} {b o k : Nat} (h : CellsAt M b o cs) (hl : cs.length = sz) (hx : R M cs x) (hk : 1 ≤ k) : RdL R sz M (some ⟨b, o, none⟩) 1 k [x] :=
  ⟨rfl, hk, (fun h => by cases h), [cs], ⟨⟨hl, hx⟩, trivial⟩, fun _ => ⟨b, o, rfl, by simpa using h⟩⟩

theorem RdL.cells (h : RdL R sz M a n cap l) : ∃ cs, All2 (fun c x => c.length = sz ∧ R M c x) cs l ∧ cs.flatten.length = n * sz ∧ ((n = 0 ∧ l = [] ∧ cs = []) ∨ ∃ b o, a = some ⟨b, o, none⟩ ∧ CellsAt M b o cs.flatten) := by
  obtain ⟨cs, h1, h2⟩ := h.els
  refine ⟨cs, h1, ?_, ?_⟩
  · rw [h.len]
    clear h2 h
    induction cs generalizing l with
    | nil => cases l with
      | nil => simp
      | cons x l => exact h1.elim
    | cons y cs ih => cases l with
      | nil => exact h1.elim
      | cons x l =>
        have := ih h1.2
        rw [List.flatten_cons, List.length_append, h1.1.1, this, List.length_cons, Nat.add_mul]
        omega
  · by_cases hl : l = []
    · subst hl
      cases cs with
      | nil => exact .inl ⟨h.len, rfl, rfl⟩
      | cons y cs => exact h1.elim
    · exact .inr (h2 hl)

theorem AppS.list {up : Bool} {t : Nat} {ti ei : TI} (ht : TB.ty t = some ti) (hk : ti.k = .slice e) (he : TB.ty e = some ei) (hsz : 0 < ei.size) (hzl : ei.zero.length = ei.size) (hR : R.Up)
    (hone : ∀ M cs x, R M cs x → ∀ u ∈ cs, u.oneCell' = true) {p : Mem → AV → Prop} (hown : OwnL R c M e ei.size a n cap l) {ya : Option Addr} {m yk : Nat} {l' : List α} (hy : RdL R ei.size M ya m yk l')
    (h63 : n + m ≤ maxLen) (hby : (n + m) * ei.bytes ≤ 140737488355328)
    (hp : ∀ M' a' cap', OwnL R c M' e ei.size a' (n + m) cap' (l ++ l') → Grows c a a' M M' → p M' (.slice (fun _ => a') (fun _ => n + m) (fun _ => cap'))) : AppS c up [t, t] [SA a n cap, SA ya m yk] M p := by
  obtain ⟨hn, cs, h1, h2⟩ := hown
  obtain ⟨cs', k1, k2, k3⟩ := hy.cells
  rcases k3 with ⟨rfl, rfl, rfl⟩ | ⟨b, o, rfl, hc⟩
  · refine AppS.none ht hk he (x := SA a n cap) (y := SA ya 0 yk) rfl h1 rfl (fun h => hy.nil h) ?_
    have := hp M a cap ⟨by simp [hn], cs, h1, by simpa using h2⟩ ⟨Mem.le_refl _, fun _ _ _ => rfl, fun b hb => .inl hb, .inl rfl⟩
    exact this
  · refine AppS.own ht hk he hsz hzl (x := SA a n cap) (y := SA _ m yk) rfl h1 rfl hc k2 ?_ h63 hby fun M' a' cap' h3 h4 => hp M' a' cap' ⟨by simp [hn, hy.len], cs ++ cs', by rw [List.flatten_append]; exact h3, ?_⟩ h4
    · intro u hu
      obtain ⟨x, hx, hux⟩ := List.mem_flatten.1 hu
      obtain ⟨j, hj⟩ := List.getElem?_of_mem hx
      have hlt : j < l'.length := by rw [← k1.length]; exact (List.getElem?_eq_some_iff.1 hj).1
      obtain ⟨c', e1, _, e3⟩ := k1.get (List.getElem?_eq_getElem hlt)
      rw [hj] at e1; cases e1
      exact hone _ _ _ e3 u hux
    · exact (h2.mono fun c x ⟨q1, q2⟩ => ⟨q1, hR _ _ h4.le c x q2⟩).append (k1.mono fun c x ⟨q1, q2⟩ => ⟨q1, hR _ _ h4.le c x q2⟩)

theorem OwnL.empty {b : Nat} (hM : M b = some (.row e 0 [])) (hB : c.B0 ≤ b) : OwnL R c M e sz (some ⟨b, 0, none⟩) 0 0 [] :=
  ⟨rfl, [], ⟨by simp, .inr ⟨b, rfl, .inl hB, by simpa using hM, Nat.le_refl _, by simp [maxLen]⟩⟩, trivial⟩
end

theorem ElI.one {k : IntKind} {P : Int → Prop} : ∀ (M : Mem) cs x, ElI k P M cs x → ∀ u ∈ cs, u.oneCell' = true := by
  rintro M cs x ⟨rfl, _⟩ u hu
  rw [List.mem_singleton] at hu
  subst hu; rfl

set_option maxRecDepth 100000 in
theorem clone_spec {l : List Int} {a : Option Addr} {n k : Nat} {M : Mem} (h : RI M a n k l) (hs : n ≤ 1000000) : Spec 75 #[SV a n k] M fun _ M' v => ∃ a' k', v = SV a' n k' ∧ RI M' a' n k' l := by
  refine ok75.spec 200 [SA a n k] rfl (by kernel_rfl) fun c K hK => ?_
  conv => cbv
  have hn := h.len
  refine ⟨fun h1 => ?_, fun h1 => ?_⟩
  · replace h1 : a.isNone = true := h1
    have ha : a = none := by simpa using h1
    subst ha
    have hk0 := h.nil rfl
    have hle := h.le
    have hl : l = [] := List.eq_nil_of_length_eq_zero (by omega)
    subst hl
    subst hn
    refine hK.ground rfl (Keeps.refl _ _) ⟨none, 0, rfl, RdL.nil' ..⟩
  · replace h1 : a.isNone = false := h1
    refine .mk trivial fun b' M' hnb hB hM' => ?_
    conv => cbv
    have hkp := keep_set (M := M) (f := .row 3 0 []) hnb
    have hM2 : M' = M.set b' (.row 3 0 []) := hM'
    rw [← hM2] at hkp
    have hown : OwnL (ElI .i64 I64) c M' 3 1 (some ⟨b', 0, none⟩) 0 0 [] := OwnL.empty (by rw [hM2]; simp [Mem.set]) hB
    refine AppS.list (t := 38) (ti := ti38) (ei := ti3) rfl rfl rfl (by decide) rfl (ElI.up _ _) ElI.one hown (h.up (ElI.up _ _) (le_of_keep hkp)) (by simp only [maxLen]; omega) (by show (0 + n) * 8 ≤ _; omega) fun M2 a' cap' h2 h3 => ?_
    conv => cbv
    have h4 : RI M2 a' (0 + n) cap' ([] ++ l) := h2.rd
    rw [Nat.zero_add, List.nil_append] at h4
    refine hK.ground rfl ?_ ⟨a', cap', by show Value.slice a' (0 + n) cap' = _; rw [Nat.zero_add], h4⟩
    intro b hb _
    show M2 b = M b
    have e1 := hkp b hb
    have hne : b ≠ b' := fun e => by subst e; exact hb hnb
    rw [h3.keep b (by rw [e1]; exact hb) (fun g hg => by cases hg; exact hne), e1]

end Go.SX
