/- Lists of one's own; slices.Clone. -/
import Derived.Test.YtojdihbanakhgaaAgJ
namespace Go.SX
open Go.Proofs.Try Go.Proofs

/-! ### Lists of one's own -/

section
variable {α : Type} {c : Ct} {M M' : Mem} {R : ElR α} {e sz : Nat} {a : Option Addr} {n cap : Nat} {l : List α}

/-- A slice over a row of one's own that reads as a list. -/
def OwnL (R : ElR α) (c : Ct) (M : Mem) (e sz : Nat) (a : Option Addr) (n cap : Nat) (l : List α) : Prop :=
  n = l.length ∧ ∃ cs : List (List Value), Own c M e sz a n cap cs.flatten ∧ All2 (fun c x => c.length = sz ∧ R M c x) cs l

theorem OwnL.nil : OwnL R c M e sz none 0 0 [] := ⟨rfl, [], Own.nil .., trivial⟩
theorem OwnL.rd (h : OwnL R c M e sz a n cap l) : RdL R sz M a n cap l := let ⟨h0, _, h1, h2⟩ := h; h1.rd rfl h2 h0

theorem Own.keep {xs : List Value} (h : Own c M e sz a n cap xs) (hk : ∀ b, M b ≠ none → M' b = M b) : Own c M' e sz a n cap xs :=
  ⟨h.len, h.row.imp_right fun ⟨g, h1, h2, h3, h4, h5⟩ => ⟨g, h1, h2, by rw [hk g (by rw [h3]; simp)]; exact h3, h4, h5⟩⟩
theorem le_of_keep (hk : ∀ b, M b ≠ none → M' b = M b) : M.le M' := fun b f hb => ⟨f, (hk b (by rw [hb]; simp)).trans hb, f.le_refl⟩
theorem OwnL.keep (hR : R.Up) (h : OwnL R c M e sz a n cap l) (hk : ∀ b, M b ≠ none → M' b = M b) : OwnL R c M' e sz a n cap l :=
  let ⟨h0, cs, h1, h2⟩ := h
  ⟨h0, cs, h1.keep hk, h2.mono fun c x ⟨k1, k2⟩ => ⟨k1, hR _ _ (le_of_keep hk) c x k2⟩⟩
theorem keep_set {b : Nat} {f : Frag} (hb : M b = none) : ∀ i, M i ≠ none → (M.set b f) i = M i := fun i hi => by
  have : i ≠ b := fun e => by subst e; exact hi hb
  simp [Mem.set, this]
theorem keep_trans {N : Mem} (h : ∀ b, M b ≠ none → M' b = M b) (h' : ∀ b, M' b ≠ none → N b = M' b) : ∀ b, M b ≠ none → N b = M b := fun b hb => by
  have := h b hb
  rw [h' b (by rw [this]; exact hb), this]
theorem Keeps.keep (h : Keeps noL M M') : ∀ b, M b ≠ none → M' b = M b := fun b hb => h b hb rfl

theorem RdL.one (_hc : ∀ cs x, R M cs x → True) {cs : List Value} {x : α} {b o k : Nat} (h : CellsAt M b o cs) (hl : cs.length = sz) (hx : R M cs x) (hk : 1 ≤ k) : RdL R sz M (some ⟨b, o, none⟩) 1 k [x] :=
  ⟨rfl, hk, (fun h => by cases h), [cs], ⟨⟨hl, hx⟩, trivial⟩, fun _ => ⟨b, o, rfl, by simpa using h⟩⟩

theorem RdL.cells (h : RdL R sz M a n cap l) : ∃ cs, All2 (fun c x => c.length = sz ∧ R M c x) cs l ∧ cs.flatten.length = n * sz ∧ ((n = 0 ∧ l = [] ∧ cs = []) ∨ ∃ b o, a = some ⟨b, o, none⟩ ∧ CellsAt M b o cs.flatten) := by
  obtain ⟨cs, h1, h2⟩ := h.els
  refine ⟨cs, h1, ?_, ?_⟩
  · rw [h.len]
    clear h2 h
    induction cs generalizing l with
    | nil => cases l with
      | nil => simp
      | cons x l => exact h1.elim
    | cons y cs ih => cases l with
      | nil => exact h1.elim
      | cons x l =>
        have := ih h1.2
        rw [List.flatten_cons, List.length_append, h1.1.1, this, List.length_cons, Nat.add_mul]
        omega
  · by_cases hl : l = []
    · subst hl
      cases cs with
      | nil => exact .inl ⟨h.len, rfl, rfl⟩
      | cons y cs => exact h1.elim
    · exact .inr (h2 hl)

theorem AppS.list {up : Bool} {t : Nat} {ti ei : TI} (ht : TB.ty t = some ti) (hk : ti.k = .slice e) (he : TB.ty e = some ei) (hsz : 0 < ei.size) (hzl : ei.zero.length = ei.size) (hR : R.Up)
    (hone : ∀ M cs x, R M cs x → ∀ u ∈ cs, u.oneCell' = true) {p : Mem → AV → Prop} (hown : OwnL R c M e ei.size a n cap l) {ya : Option Addr} {m yk : Nat} {l' : List α} (hy : RdL R ei.size M ya m yk l')
    (h63 : n + m ≤ maxLen) (hby : (n + m) * ei.bytes ≤ 140737488355328)
    (hp : ∀ M' a' cap', OwnL R c M' e ei.size a' (n + m) cap' (l ++ l') → Grows c a a' M M' → p M' (.slice (fun _ => a') (fun _ => n + m) (fun _ => cap'))) : AppS c up [t, t] [SA a n cap, SA ya m yk] M p := by
  obtain ⟨hn, cs, h1, h2⟩ := hown
  obtain ⟨cs', k1, k2, k3⟩ := hy.cells
  rcases k3 with ⟨rfl, rfl, rfl⟩ | ⟨b, o, rfl, hc⟩
  · refine AppS.none ht hk he (x := SA a n cap) (y := SA ya 0 yk) rfl h1 rfl (fun h => hy.nil h) ?_
    have := hp M a cap ⟨by simp [hn], cs, h1, by simpa using h2⟩ ⟨Mem.le_refl _, fun _ _ _ => rfl, fun b hb => .inl hb, .inl rfl⟩
    exact this
  · refine AppS.own ht hk he hsz hzl (x := SA a n cap) (y := SA _ m yk) rfl h1 rfl hc k2 ?_ h63 hby fun M' a' cap' h3 h4 => hp M' a' cap' ⟨by simp [hn, hy.len], cs ++ cs', by rw [List.flatten_append]; exact h3, ?_⟩ h4
    · intro u hu
      obtain ⟨x, hx, hux⟩ := List.mem_flatten.1 hu
      obtain ⟨j, hj⟩ := List.getElem?_of_mem hx
      have hlt : j < l'.length := by rw [← k1.length]; exact (List.getElem?_eq_some_iff.1 hj).1
      obtain ⟨c', e1, _, e3⟩ := k1.get (List.getElem?_eq_getElem hlt)
      rw [hj] at e1; cases e1
      exact hone _ _ _ e3 u hux
    · exact (h2.mono fun c x ⟨q1, q2⟩ => ⟨q1, hR _ _ h4.le c x q2⟩).append (k1.mono fun c x ⟨q1, q2⟩ => ⟨q1, hR _ _ h4.le c x q2⟩)

theorem OwnL.empty {b : Nat} (hM : M b = some (.row e 0 [])) (hB : c.B0 ≤ b) : OwnL R c M e sz (some ⟨b, 0, none⟩) 0 0 [] :=
  ⟨rfl, [], ⟨by simp, .inr ⟨b, rfl, .inl hB, by simpa using hM, Nat.le_refl _, by simp [maxLen]⟩⟩, trivial⟩
end

theorem ElI.one {k : IntKind} {P : Int → Prop} : ∀ (M : Mem) cs x, ElI k P M cs x → ∀ u ∈ cs, u.oneCell' = true := by
  rintro M cs x ⟨rfl, _⟩ u hu
  rw [List.mem_singleton] at hu
  subst hu; rfl

set_option maxRecDepth 100000 in
theorem clone_spec {l : List Int} {a : Option Addr} {n k : Nat} {M : Mem} (h : RI M a n k l) (hs : n ≤ 1000000) : Spec 75 #[SV a n k] M fun _ M' v => ∃ a' k', v = SV a' n k' ∧ RI M' a' n k' l := by
  refine ok75.spec 200 [SA a n k] rfl (by kernel_rfl) fun c K hK => ?_
  conv => cbv
  have hn := h.len
  refine ⟨fun h1 => ?_, fun h1 => ?_⟩
  · replace h1 : a.isNone = true := h1
    have ha : a = none := by simpa using h1
    subst ha
    have hk0 := h.nil rfl
    have hle := h.le
    have hl : l = [] := List.eq_nil_of_length_eq_zero (by omega)
    subst hl
    subst hn
    refine hK.ground rfl (Keeps.refl _ _) ⟨none, 0, rfl, RdL.nil' ..⟩
  · replace h1 : a.isNone = false := h1
    refine .mk trivial fun b' M' hnb hB hM' => ?_
    conv => cbv
    have hkp := keep_set (M := M) (f := .row 3 0 []) hnb
    have hM2 : M' = M.set b' (.row 3 0 []) := hM'
    rw [← hM2] at hkp
    have hown : OwnL (ElI .i64 I64) c M' 3 1 (some ⟨b', 0, none⟩) 0 0 [] := OwnL.empty (by rw [hM2]; simp [Mem.set]) hB
    refine AppS.list (t := 38) (ti := ti38) (ei := ti3) rfl rfl rfl (by decide) rfl (ElI.up _ _) ElI.one hown (h.up (ElI.up _ _) (le_of_keep hkp)) (by simp only [maxLen]; omega) (by show (0 + n) * 8 ≤ _; omega) fun M2 a' cap' h2 h3 => ?_
    conv => cbv
    have h4 : RI M2 a' (0 + n) cap' ([] ++ l) := h2.rd
    rw [Nat.zero_add, List.nil_append] at h4
    refine hK.ground rfl ?_ ⟨a', cap', by show Value.slice a' (0 + n) cap' = _; rw [Nat.zero_add], h4⟩
    intro b hb _
    show M2 b = M b
    have e1 := hkp b hb
    have hne : b ≠ b' := fun e => by subst e; exact hb hnb
    rw [h3.keep b (by rw [e1]; exact hb) (fun g hg => by cases hg; exact hne), e1]

end Go.SX

/- Package ask: checks, totals, single answers. -/
namespace Go.SX
open Go.Proofs.Try Go.Proofs

/-! ### Cakes and queries in lists -/

structure QV where
  ag : Int
  kind : Int
  a : R
  b : R
  ans : R
  deriving DecidableEq

abbrev QV.cells (q : QV) : List Value := [EV q.ag, .int .u8 q.kind, EV q.a.n, EV q.a.d, EV q.b.n, EV q.b.d, EV q.ans.n, EV q.ans.d]
abbrev QV.avs (q : QV) : List AV := [EA q.ag, .sym .u8 fun _ => q.kind, EA q.a.n, EA q.a.d, EA q.b.n, EA q.b.d, EA q.ans.n, EA q.ans.d]

structure QV.Wf (q : QV) : Prop where
  ag : I64 q.ag
  kind : 0 ≤ q.kind ∧ q.kind < 256
  a : q.a.Wf
  b : q.b.Wf
  ans : q.ans.Wf

def ElQ : ElR QV := fun _ cs q => cs = q.cells ∧ q.Wf
theorem ElQ.up : ElQ.Up := fun _ _ _ _ _ h => h
theorem ElQ.one : ∀ (M : Mem) cs x, ElQ M cs x → ∀ u ∈ cs, u.oneCell' = true := by
  rintro M cs x ⟨rfl, _⟩ u hu
  simp only [QV.cells, List.mem_cons, List.not_mem_nil, or_false] at hu
  rcases hu with rfl | rfl | rfl | rfl | rfl | rfl | rfl | rfl <;> rfl

abbrev CP.cells (p : CP) : List Value := [EV p.len, SV p.ca p.cn p.ck, SV p.da p.dn p.dk]
abbrev CP.avs (p : CP) : List AV := [EA p.len, SA p.ca p.cn p.ck, SA p.da p.dn p.dk]
def ElC : ElR CakeV := fun M cs c => ∃ p : CP, cs = p.cells ∧ Ck M p c
theorem ElC.up : ElC.Up := fun _ _ h _ _ ⟨p, e, hc⟩ => ⟨p, e, hc.up h⟩
theorem ElC.one : ∀ (M : Mem) cs x, ElC M cs x → ∀ u ∈ cs, u.oneCell' = true := by
  rintro M cs x ⟨p, rfl, _⟩ u hu
  simp only [CP.cells, List.mem_cons, List.not_mem_nil, or_false] at hu
  rcases hu with rfl | rfl | rfl <;> rfl

abbrev RC (M : Mem) (a : Option Addr) (n k : Nat) (l : List CakeV) : Prop := RdL ElC 3 M a n k l
abbrev RQ (M : Mem) (a : Option Addr) (n k : Nat) (l : List QV) : Prop := RdL ElQ 8 M a n k l

theorem RdL.cake {M : Mem} {a : Option Addr} {n k : Nat} {l : List CakeV} (h : RC M a n k l) {i : Nat} (hi : i < l.length) :
    ∃ b o p, a = some ⟨b, o, none⟩ ∧ CellsAt M b (o + i * 3) p.cells ∧ Ck M p l[i] := by
  obtain ⟨b, o, c, e, _, ⟨p, rfl, hp⟩, hm⟩ := h.at (List.getElem?_eq_getElem hi)
  exact ⟨b, o, p, e, hm, hp⟩

theorem RdL.query {M : Mem} {a : Option Addr} {n k : Nat} {l : List QV} (h : RQ M a n k l) {i : Nat} (hi : i < l.length) :
    ∃ b o, a = some ⟨b, o, none⟩ ∧ CellsAt M b (o + i * 8) l[i].cells ∧ l[i].Wf := by
  obtain ⟨b, o, c, e, _, ⟨rfl, hp⟩, hm⟩ := h.at (List.getElem?_eq_getElem hi)
  exact ⟨b, o, e, hm, hp⟩

/-! ### Desks -/

def firstE : List CakeV → Int
  | [] => 0
  | c :: l => if checkC c ≠ 0 then checkC c else firstE l

def deskC (cs : List CakeV) (n : Nat) : Int :=
  if 6 < cs.length ∨ 2000 < n then 4
  else match cs with
    | [] => 8
    | c0 :: _ => if firstE cs ≠ 0 then firstE cs else if cs.all (fun c => decide (c.len = c0.len)) then 0 else 8

theorem firstE_cons {l : List CakeV} {i : Nat} (h : i < l.length) : firstE (l.drop i) = if checkC l[i] ≠ 0 then checkC l[i] else firstE (l.drop (i + 1)) := by
  rw [drop_cons' h]; rfl

theorem deskC_many {cs : List CakeV} {n : Nat} (h1 : 6 < cs.length ∨ 2000 < n) : deskC cs n = 4 := by unfold deskC; rw [if_pos h1]
theorem deskC_nil {n : Nat} (h1 : ¬ 2000 < n) : deskC [] n = 8 := by unfold deskC; rw [if_neg (by simp; omega)]

theorem deskC_ne {cs : List CakeV} {n : Nat} (h1 : ¬ (6 < cs.length ∨ 2000 < n)) (h2 : 0 < cs.length) : deskC cs n = if firstE cs ≠ 0 then firstE cs else if cs.all (fun c => decide (c.len = cs[0].len)) then 0 else 8 := by
  unfold deskC
  rw [if_neg h1]
  cases cs with
  | nil => simp at h2
  | cons c l => rfl

abbrev DA (ca : Option Addr) (cn ck : Nat) (qa : Option Addr) (qn qk : Nat) : AV := .agg [SA ca cn ck, SA qa qn qk]
abbrev DV (ca : Option Addr) (cn ck : Nat) (qa : Option Addr) (qn qk : Nat) : Value := .agg #[SV ca cn ck, SV qa qn qk]

set_option maxRecDepth 100000 in
theorem askCheck_spec {cs : List CakeV} {M : Mem} {ca qa : Option Addr} {cn ck qn qk : Nat} (h : RC M ca cn ck cs) : Pure1 90 #[DV ca cn ck qa qn qk] M (EV (deskC cs qn)) := by
  have hn := h.len
  refine ok90.pure 300 [DA ca cn ck qa qn qk] rfl (by kernel_rfl) fun c K hK => ?_
  conv => cbv
  refine ⟨fun h1 => ?_, fun h1 => ?_⟩
  · replace h1 := of_decide_eq_true h1
    try simp only [nc] at h1
    try simp only [minF_t] at h1
    try simp only [minF_f] at h1
    try dsimp only at h1
    refine hK.pure rfl (Mem.le_refl _) ?_
    rw [deskC_many (.inl (by omega))]
    rfl
  · replace h1 := of_decide_eq_false h1
    try simp only [nc] at h1
    try simp only [minF_t] at h1
    try simp only [minF_f] at h1
    try dsimp only at h1
    refine ⟨fun h2 => ?_, fun h2 => ?_⟩
    · replace h2 := of_decide_eq_true h2
      try simp only [nc] at h2
      try simp only [minF_t] at h2
      try simp only [minF_f] at h2
      try dsimp only at h2
      refine hK.pure rfl (Mem.le_refl _) ?_
      rw [deskC_many (.inr (by omega))]
      rfl
    · replace h2 := of_decide_eq_false h2
      try simp only [nc] at h2
      try simp only [minF_t] at h2
      try simp only [minF_f] at h2
      try dsimp only at h2
      refine ⟨fun h3 => ?_, fun h3 => ?_⟩
      · replace h3 := of_decide_eq_true h3
        try simp only [nc] at h3
        try simp only [minF_t] at h3
        try simp only [minF_f] at h3
        try dsimp only at h3
        refine hK.pure rfl (Mem.le_refl _) ?_
        have : cs = [] := List.eq_nil_of_length_eq_zero (by omega)
        subst this
        rw [deskC_nil (by omega)]
        rfl
      · replace h3 := of_decide_eq_false h3
        try simp only [nc] at h3
        try simp only [minF_t] at h3
        try simp only [minF_f] at h3
        try dsimp only at h3
        rw [deskC_ne (by omega) (by omega)] at hK
        refine OKS.loopH (fun i => i ≤ cn ∧ firstE (cs.drop i) = firstE cs) (fun i => [(25, EA i)]) (fun i => [(4, .none)]) (fun _ => M) (fun i => cn - i) 0 ⟨by omega, by simp⟩ ?_ ?_
        · refine ⟨by cbv <;> simp, by cbv <;> simp, by cbv, Mem.le_refl _⟩
        · intro i ⟨hi1, hi2⟩ ih
          refine ok90.go 100 (by kernel_rfl) ?_
          conv => cbv
          refine ⟨fun l1 => ?_, fun l1 => ?_⟩
          · replace l1 := of_decide_eq_true l1
            try simp only [nc] at l1
            try simp only [minF_t] at l1
            try simp only [minF_f] at l1
            try dsimp only at l1
            obtain ⟨b, o, p, ea, hp, hck⟩ := h.cake (i := i) (by omega)
            refine .mk b o i ea rfl (by show i < cn; omega) ?_
            conv => cbv
            refine .mk p.avs rfl rfl hp ?_
            conv => cbv
            refine CallS.pure (cakeCheck_spec hck) rfl (EA (checkC cs[i])) rfl rfl ?_
            conv => cbv
            rw [firstE_cons (by omega)] at hi2
            refine ⟨fun l2 => ?_, fun l2 => ?_⟩
            · replace l2 := of_decide_eq_true l2
              try simp only [nc] at l2
              try simp only [minF_t] at l2
              try simp only [minF_f] at l2
              try dsimp only at l2
              refine hK.pure rfl (Mem.le_refl _) ?_
              rw [← hi2, if_pos l2, if_pos l2]
              rfl
            · replace l2 := of_decide_eq_false l2
              try simp only [nc] at l2
              try simp only [minF_t] at l2
              try simp only [minF_f] at l2
              try dsimp only at l2
              refine .i64 ((i + 1 : Nat) : Int) (by show (i : Int) + 1 = _; omega) (by omega) (by omega) ?_
              conv => cbv
              refine ih (i + 1) ⟨by omega, by rw [← hi2, if_neg l2]⟩ (by omega) _ ?_
              refine ⟨by cbv <;> simp, by cbv <;> simp, by cbv, Mem.le_refl _⟩
          · replace l1 := of_decide_eq_false l1
            try simp only [nc] at l1
            try simp only [minF_t] at l1
            try simp only [minF_f] at l1
            try dsimp only at l1
            have e0 : firstE cs = 0 := by
              have e1 : cs.drop i = [] := List.drop_eq_nil_of_le (by omega)
              rw [← hi2, e1]
              rfl
            rw [e0, if_neg (by omega)] at hK
            refine OKS.loopH (fun i => i ≤ cn ∧ ∀ j (hj : j < cs.length), j < i → cs[j].len = cs[0].len) (fun i => [(38, EA i)]) (fun i => [(7, .none)]) (fun _ => M) (fun i => cn - i) 0 ⟨by omega, fun j _ h => by omega⟩ ?_ ?_
            · refine ⟨by cbv <;> simp, by cbv <;> simp, by cbv, Mem.le_refl _⟩
            · intro i ⟨hi1, hi2⟩ ih
              refine ok90.go 100 (by kernel_rfl) ?_
              conv => cbv
              refine ⟨fun l1 => ?_, fun l1 => ?_⟩
              · replace l1 := of_decide_eq_true l1
                try simp only [nc] at l1
                try simp only [minF_t] at l1
                try simp only [minF_f] at l1
                try dsimp only at l1
                obtain ⟨b, o, p, ea, hp, hck⟩ := h.cake (i := i) (by omega)
                refine .mk b o i ea rfl (by show i < cn; omega) ?_
                conv => cbv
                refine .mk p.avs rfl rfl hp ?_
                conv => cbv
                obtain ⟨b0, o0, p0, ea0, hp0, hck0⟩ := h.cake (i := 0) (by omega)
                refine .mk b0 o0 0 ea0 rfl (by show 0 < cn; omega) ?_
                conv => cbv
                refine .mk (EA p0.len) rfl hp0.1 ?_
                conv => cbv
                have q1 := hck.len
                have q2 := hck0.len
                refine ⟨fun l2 => ?_, fun l2 => ?_⟩
                · replace l2 := of_decide_eq_true l2
                  try simp only [nc] at l2
                  try simp only [minF_t] at l2
                  try simp only [minF_f] at l2
                  try dsimp only at l2
                  refine hK.pure rfl (Mem.le_refl _) ?_
                  have : ¬ (cs.all (fun c => decide (c.len = cs[0].len)) = true) := fun e => by
                    have := List.all_eq_true.1 e _ (List.getElem_mem (show i < cs.length by omega))
                    simp at this
                    omega
                  rw [if_neg this]
                  rfl
                · replace l2 := of_decide_eq_false l2
                  try simp only [nc] at l2
                  try simp only [minF_t] at l2
                  try simp only [minF_f] at l2
                  try dsimp only at l2
                  refine .i64 ((i + 1 : Nat) : Int) (by show (i : Int) + 1 = _; omega) (by omega) (by omega) ?_
                  conv => cbv
                  refine ih (i + 1) ⟨by omega, fun j hj hji => ?_⟩ (by omega) _ ?_
                  · rcases Nat.lt_or_ge j i with hlt | hge
                    · exact hi2 j hj hlt
                    · have : j = i := by omega
                      subst this
                      omega
                  · refine ⟨by cbv <;> simp, by cbv <;> simp, by cbv, Mem.le_refl _⟩
              · replace l1 := of_decide_eq_false l1
                try simp only [nc] at l1
                try simp only [minF_t] at l1
                try simp only [minF_f] at l1
                try dsimp only at l1
                refine hK.pure rfl (Mem.le_refl _) ?_
                have : cs.all (fun c => decide (c.len = cs[0].len)) = true := List.all_eq_true.2 fun x hx => by
                  obtain ⟨j, hj, rfl⟩ := List.getElem_of_mem hx
                  simpa using hi2 j hj (by omega)
                rw [if_pos this]
                rfl

def hasC (n : Nat) (ag : Int) : Bool := decide (0 ≤ ag) && decide (ag < n)

theorem has_spec {M : Mem} {ca qa : Option Addr} {cn ck qn qk : Nat} (ag : Int) : Pure1 91 #[DV ca cn ck qa qn qk, EV ag] M (.bool (hasC cn ag)) := by
  refine ok91.pure 300 [DA ca cn ck qa qn qk, EA ag] rfl (by kernel_rfl) fun c K hK => ?_
  conv => cbv
  refine ⟨fun h1 => ?_, fun h1 => ?_⟩
  · replace h1 := of_decide_eq_true h1
    try simp only [nc] at h1
    try simp only [minF_t] at h1
    try simp only [minF_f] at h1
    try dsimp only at h1
    refine hK.pure rfl (Mem.le_refl _) ?_
    simp only [hasC, decide_eq_true h1, Bool.true_and]
    rfl
  · replace h1 := of_decide_eq_false h1
    try simp only [nc] at h1
    try simp only [minF_t] at h1
    try simp only [minF_f] at h1
    try dsimp only at h1
    refine hK.pure rfl (Mem.le_refl _) ?_
    simp only [hasC, decide_eq_false h1, Bool.false_and]
    rfl

def getC (cs : List CakeV) (ag : Int) : CakeV := cs.getD ag.toNat ⟨0, [], []⟩

theorem getC_eq {cs : List CakeV} {i : Nat} {ag : Int} (h : ag = (i : Int)) (hi : i < cs.length) : getC cs ag = cs[i] := by
  rw [getC, h, Int.toNat_natCast, List.getD_eq_getElem?_getD, List.getElem?_eq_getElem hi]; rfl

theorem hasC_nat {n : Nat} {ag : Int} (h : hasC n ag = true) : ∃ i : Nat, ag = (i : Int) ∧ i < n := by
  simp only [hasC, Bool.and_eq_true, decide_eq_true_eq] at h
  exact ⟨ag.toNat, by omega, by omega⟩

def totalA (cs : List CakeV) (n : Nat) (ag : Int) : Int × Int :=
  if deskC cs n ≠ 0 then (0, deskC cs n) else if hasC cs.length ag = false then (0, 2) else totalC (getC cs ag)

theorem askTotal_spec {cs : List CakeV} {M : Mem} {ca qa : Option Addr} {cn ck qn qk : Nat} (h : RC M ca cn ck cs) (ag : Int) : Pure1 36 #[DV ca cn ck qa qn qk, EV ag] M (.tuple #[EV (totalA cs qn ag).1, EV (totalA cs qn ag).2]) := by
  have hn := h.len
  refine ok36.pure 300 [DA ca cn ck qa qn qk, EA ag] rfl (by kernel_rfl) fun c K hK => ?_
  conv => cbv
  refine CallS.pure (askCheck_spec h) rfl (EA (deskC cs qn)) rfl rfl ?_
  conv => cbv
  refine ⟨fun h1 => ?_, fun h1 => ?_⟩
  · replace h1 := of_decide_eq_true h1
    try simp only [nc] at h1
    try simp only [minF_t] at h1
    try simp only [minF_f] at h1
    try dsimp only at h1
    refine hK.pure rfl (Mem.le_refl _) ?_
    rw [totalA, if_pos h1]
    rfl
  · replace h1 := of_decide_eq_false h1
    try simp only [nc] at h1
    try simp only [minF_t] at h1
    try simp only [minF_f] at h1
    try dsimp only at h1
    refine CallS.pure (has_spec ag) rfl (.sb fun _ => hasC cn ag) rfl rfl ?_
    conv => cbv
    refine ⟨fun h2 => ?_, fun h2 => ?_⟩
    · replace h2 : (!hasC cn ag) = true := h2
      refine hK.pure rfl (Mem.le_refl _) ?_
      rw [totalA, if_neg h1, if_pos (by rw [← hn]; simpa using h2)]
      rfl
    · replace h2 : (!hasC cn ag) = false := h2
      have h2 : hasC cn ag = true := by simpa using h2
      obtain ⟨i, rfl, hi⟩ := hasC_nat h2
      obtain ⟨b, o, p, ea, hp, hck⟩ := h.cake (i := i) (by omega)
      refine .mk b o i ea rfl hi ?_
      conv => cbv
      refine .mk p.avs rfl rfl hp ?_
      conv => cbv
      refine CallS.pure (total_spec hck) rfl (.tup [EA _, EA _]) rfl rfl ?_
      conv => cbv
      refine hK.pure rfl (Mem.le_refl _) ?_
      rw [totalA, if_neg h1, if_neg (by rw [← hn, h2]; simp), getC_eq rfl (by omega)]
      rfl

theorem aValue_spec {cs : List CakeV} {M : Mem} {ca qa : Option Addr} {cn ck qn qk : Nat} (h : RC M ca cn ck cs) {ag : Int} (hag : hasC cn ag = true) (a b : R) (ha : a.Wf) (hb : b.Wf) :
    Pure1 88 #[DV ca cn ck qa qn qk, EV ag, RV a, RV b] M (RE (valueC (getC cs ag) a b)) := by
  have hn := h.len
  obtain ⟨i, rfl, hi⟩ := hasC_nat hag
  obtain ⟨b', o, p, ea, hp, hck⟩ := h.cake (i := i) (by omega)
  rw [getC_eq rfl (by omega)]
  refine ok88.pure 300 [DA ca cn ck qa qn qk, EA i, RA a, RA b] rfl (by kernel_rfl) fun c K hK => ?_
  conv => cbv
  refine .mk b' o i ea rfl hi ?_
  conv => cbv
  refine .mk p.avs rfl rfl hp ?_
  conv => cbv
  refine CallS.pure (value_spec hck a b ha hb) rfl (REA _) rfl rfl ?_
  conv => cbv
  refine hK.pure rfl (Mem.le_refl _) ?_
  rfl

theorem aMark_spec {cs : List CakeV} {M : Mem} {ca qa : Option Addr} {cn ck qn qk : Nat} (h : RC M ca cn ck cs) {ag : Int} (hag : hasC cn ag = true) (a b : R) (ha : a.Wf) (hb : b.Wf) :
    Pure1 89 #[DV ca cn ck qa qn qk, EV ag, RV a, RV b] M (RE (markC (getC cs ag) a b)) := by
  have hn := h.len
  obtain ⟨i, rfl, hi⟩ := hasC_nat hag
  obtain ⟨b', o, p, ea, hp, hck⟩ := h.cake (i := i) (by omega)
  rw [getC_eq rfl (by omega)]
  refine ok89.pure 300 [DA ca cn ck qa qn qk, EA i, RA a, RA b] rfl (by kernel_rfl) fun c K hK => ?_
  conv => cbv
  refine .mk b' o i ea rfl hi ?_
  conv => cbv
  refine .mk p.avs rfl rfl hp ?_
  conv => cbv
  refine CallS.pure (mark_spec hck a b ha hb) rfl (REA _) rfl rfl ?_
  conv => cbv
  refine hK.pure rfl (Mem.le_refl _) ?_
  rfl

end Go.SX

/- Package ask: copies of cakes. -/
namespace Go.SX
open Go.Proofs.Try Go.Proofs

theorem keep_app {α : Type} {R : ElR α} {c : Ct} {M M1 M2 : Mem} {e sz : Nat} {a a' : Option Addr} {n cap : Nat} {l : List α} (h : ∀ b, M b ≠ none → M1 b = M b) (hB : ∀ b, M b ≠ none → b < c.B0) (hl : c.lent = noL)
    (hown : OwnL R c M1 e sz a n cap l) (hg : Grows c a a' M1 M2) : ∀ b, M b ≠ none → M2 b = M b := fun b hb => by
  have e1 := h b hb
  rw [hg.keep b (by rw [e1]; exact hb) ?_, e1]
  rintro g rfl rfl
  obtain ⟨_, cs, h1, _⟩ := hown
  rcases h1.row with ⟨h2, _⟩ | ⟨g, h2, h3, _⟩
  · cases h2
  · cases h2
    rcases h3 with h3 | h3
    · have := hB b hb; omega
    · rw [hl] at h3; cases h3

theorem Keeps.of_keep {M M' : Mem} (h : ∀ b, M b ≠ none → M' b = M b) : Keeps noL M M' := fun b hb _ => h b hb

set_option maxRecDepth 100000 in
theorem copied_spec {cs : List CakeV} {a : Option Addr} {n k : Nat} {M : Mem} (h : RC M a n k cs) (hs : cs.length ≤ 1000) (hsz : ∀ c ∈ cs, c.cuts.length ≤ 1000 ∧ c.dens.length ≤ 1000) :
    Spec 92 #[SV a n k] M fun _ M' v => ∃ a' k', v = SV a' n k' ∧ RC M' a' n k' cs := by
  have hn := h.len
  refine ok92.spec 200 [SA a n k] rfl (by kernel_rfl) fun c K hK => ?_
  conv => cbv
  refine OKS.loopH (fun (p : Nat × Mem × Option Addr × Nat) => p.1 ≤ n ∧ OwnL ElC c p.2.1 40 3 p.2.2.1 p.1 p.2.2.2 (cs.take p.1) ∧ ∀ b, M b ≠ none → p.2.1 b = M b)
    (fun p => [(3, SA p.2.2.1 p.1 p.2.2.2), (8, EA p.1)]) (fun _ => [(5, .none)]) (fun p => p.2.1) (fun p => n - p.1) (0, M, none, 0) ⟨by simp, OwnL.nil, fun _ _ => rfl⟩ ?_ ?_
  · refine ⟨by cbv <;> simp, by cbv <;> simp, by cbv, Mem.le_refl _⟩
  · intro ⟨i, Mi, a', k'⟩ ⟨hi1, hown, hkp⟩ ih
    simp only at hi1 hown hkp
    have hcM : RC Mi a n k cs := h.up ElC.up (le_of_keep hkp)
    refine ok92.go 100 (by kernel_rfl) ?_
    conv => cbv
    refine ⟨fun l1 => ?_, fun l1 => ?_⟩
    · replace l1 := of_decide_eq_true l1
      try simp only [nc] at l1
      try simp only [minF_t] at l1
      try simp only [minF_f] at l1
      try dsimp only at l1
      obtain ⟨b, o, p, ea, hp, hck⟩ := hcM.cake (i := i) (by omega)
      have hz := hsz _ (List.getElem_mem (show i < cs.length by omega))
      refine .mk b o i ea rfl (by show i < n; omega) ?_
      conv => cbv
      refine .mk p.avs rfl rfl hp ?_
      conv => cbv
      have z1 := hck.cuts.len
      have z2 := hck.dens.len
      refine CallS.spec (clone_spec hck.cuts (by omega)) rfl fun B1 M1 v1 hB1 hlt1 hk1 hn1 ⟨a1, k1, ev1, h1⟩ => ⟨SA a1 p.cn k1, rfl, ev1.symm, ?_⟩
      conv => cbv
      refine CallS.spec (clone_spec (hck.up hk1.le).dens (by omega)) rfl fun B2 M2 v2 hB2 hlt2 hk2 hn2 ⟨a2, k2, ev2, h2⟩ => ⟨SA a2 p.dn k2, rfl, ev2.symm, ?_⟩
      conv => cbv
      refine .mk trivial fun b3 M3 hn3 hB3 hM3 => ?_
      conv => cbv
      have hM3' : M3 = M2.set b3 (.row 40 3 (CP.cells ⟨p.len, a1, p.cn, k1, a2, p.dn, k2⟩)) := hM3
      have kp3 : ∀ b, M2 b ≠ none → M3 b = M2 b := by rw [hM3']; exact keep_set hn3
      have kpi : ∀ b, Mi b ≠ none → M3 b = Mi b := keep_trans hk1.keep (keep_trans hk2.keep kp3)
      have kp : ∀ b, M b ≠ none → M3 b = M b := keep_trans hkp kpi
      have hck3 : Ck M3 ⟨p.len, a1, p.cn, k1, a2, p.dn, k2⟩ cs[i] := ⟨hck.len, hck.i64, (h1.up (ElI.up _ _) hk2.le).up (ElI.up _ _) (le_of_keep kp3), h2.up (ElI.up _ _) (le_of_keep kp3)⟩
      have hown3 := hown.keep ElC.up kpi
      have hone : RC M3 (some ⟨b3, 0, none⟩) 1 1 [cs[i]] := RdL.one (fun _ _ _ => trivial) (CellsAt.new hM3') rfl ⟨_, rfl, hck3⟩ (by omega)
      refine AppS.list (t := 53) (ti := ti53) (ei := ti40) rfl rfl rfl (by decide) rfl ElC.up ElC.one hown3 hone (by simp only [maxLen]; omega) (by show (i + 1) * 56 ≤ _; omega) fun M4 a4 k4 h4 g4 => ?_
      conv => cbv
      refine .i64 ((i + 1 : Nat) : Int) (by show (i : Int) + 1 = _; omega) (by omega) (by omega) ?_
      conv => cbv
      rw [← take_snoc (show i < cs.length by omega)] at h4
      refine ih (i + 1, M4, a4, k4) ⟨by simp only; omega, h4, keep_app kp hK.lt hK.lent hown3 g4⟩ (by simp only; omega) _ ?_
      refine ⟨by cbv <;> simp, by cbv <;> simp, by cbv, Mem.le_refl _⟩
    · replace l1 := of_decide_eq_false l1
      try simp only [nc] at l1
      try simp only [minF_t] at l1
      try simp only [minF_f] at l1
      try dsimp only at l1
      have : i = cs.length := by omega
      subst this
      rw [List.take_length] at hown
      refine hK.ground rfl (Keeps.of_keep hkp) ⟨a', k', ?_, ?_⟩
      · simp only [AV.val, AV.den, hn]
      · rw [hn]; exact hown.rd

end Go.SX
