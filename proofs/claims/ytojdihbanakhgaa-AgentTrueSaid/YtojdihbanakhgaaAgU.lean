/- Reference: cakes and logs are compared. -/
import Derived.Test.YtojdihbanakhgaaAgT
import Derived.Test.YtojdihbanakhgaaAgO
namespace Go.SX
open Go.Proofs.Try Go.Proofs

theorem CakeV.ne_of {a b : CakeV} (h : a.len ≠ b.len ∨ a.cuts ≠ b.cuts ∨ a.dens ≠ b.dens) : decide (a = b) = false := by
  refine decide_eq_false fun e => ?_
  subst e
  rcases h with h | h | h <;> exact h rfl
theorem CakeV.eq_of {a b : CakeV} (h1 : a.len = b.len) (h2 : a.cuts = b.cuts) (h3 : a.dens = b.dens) : decide (a = b) = true := by
  refine decide_eq_true ?_
  cases a; cases b
  simp_all

theorem list_eq {α : Type} {l m : List α} (hl : l.length = m.length) (h : ∀ j (h1 : j < l.length) (h2 : j < m.length), l[j] = m[j]) : l = m := List.ext_getElem hl h
theorem list_ne {α : Type} {l m : List α} {j : Nat} (h1 : j < l.length) (h2 : j < m.length) (h : l[j] ≠ m[j]) : l ≠ m := fun e => by subst e; exact h rfl
theorem list_ne' {α : Type} {l m : List α} (h : l.length ≠ m.length) : l ≠ m := fun e => h (by rw [e])

set_option maxHeartbeats 1000000 in
set_option maxRecDepth 100000 in
theorem same_spec {p p' : CP} {q q' : CakeV} {M : Mem} (h : Ck M p q) (h' : Ck M p' q') (hb1 : p.cn ≤ 4611686018427387904) (hb2 : p.dn ≤ 4611686018427387904) : Pure1 28 #[p.val, p'.val] M (.bool (decide (q = q'))) := by
  obtain ⟨len, ca, cn, ck, da, dn, dk⟩ := p
  obtain ⟨len', ca', cn', ck', da', dn', dk'⟩ := p'
  obtain ⟨e1, _, hc, hd⟩ := h
  obtain ⟨e1', _, hc', hd'⟩ := h'
  simp only at e1 hc hd e1' hc' hd' hb1 hb2
  subst e1 e1'
  have hcn := hc.len
  have hdn := hd.len
  have hcn' := hc'.len
  have hdn' := hd'.len
  refine ok28.pure 300 [.agg [EA q.len, SA ca cn ck, SA da dn dk], .agg [EA q'.len, SA ca' cn' ck', SA da' dn' dk']] rfl (by kernel_rfl) fun c K hK => ?_
  conv => cbv
  refine ⟨fun h1 => ?_, fun h1 => ?_⟩
  · replace h1 := of_decide_eq_true h1
    try simp only [nc] at h1
    try simp only [minF_t] at h1
    try simp only [minF_f] at h1
    try dsimp only at h1
    refine hK.pure rfl (Mem.le_refl _) ?_
    rw [CakeV.ne_of (.inl h1)]
    rfl
  · replace h1 := of_decide_eq_false h1
    try simp only [nc] at h1
    try simp only [minF_t] at h1
    try simp only [minF_f] at h1
    try dsimp only at h1
    refine ⟨fun h2 => ?_, fun h2 => ?_⟩
    · replace h2 := of_decide_eq_true h2
      try simp only [nc] at h2
      try simp only [minF_t] at h2
      try simp only [minF_f] at h2
      try dsimp only at h2
      refine hK.pure rfl (Mem.le_refl _) ?_
      rw [CakeV.ne_of (.inr (.inl (list_ne' (by omega))))]
      rfl
    · replace h2 := of_decide_eq_false h2
      try simp only [nc] at h2
      try simp only [minF_t] at h2
      try simp only [minF_f] at h2
      try dsimp only at h2
      refine ⟨fun h3 => ?_, fun h3 => ?_⟩
      · replace h3 := of_decide_eq_true h3
        try simp only [nc] at h3
        try simp only [minF_t] at h3
        try simp only [minF_f] at h3
        try dsimp only at h3
        refine hK.pure rfl (Mem.le_refl _) ?_
        rw [CakeV.ne_of (.inr (.inr (list_ne' (by omega))))]
        rfl
      · replace h3 := of_decide_eq_false h3
        try simp only [nc] at h3
        try simp only [minF_t] at h3
        try simp only [minF_f] at h3
        try dsimp only at h3
        refine OKS.loopH (fun i => i ≤ cn ∧ ∀ j (h1 : j < q.cuts.length) (h2 : j < q'.cuts.length), j < i → q.cuts[j] = q'.cuts[j]) (fun i => [(5, EA i)]) (fun _ => []) (fun _ => M) (fun i => cn - i) 0 ⟨by omega, fun j _ _ h => by omega⟩ ?_ ?_
        · refine ⟨by cbv <;> simp, by cbv <;> simp, by cbv, Mem.le_refl _⟩
        · intro i ⟨hi1, hi2⟩ ih
          refine ok28.go 100 (by kernel_rfl) ?_
          conv => cbv
          refine ⟨fun l1 => ?_, fun l1 => ?_⟩
          · replace l1 := of_decide_eq_true l1
            try simp only [nc] at l1
            try simp only [minF_t] at l1
            try simp only [minF_f] at l1
            try dsimp only at l1
            obtain ⟨b, o, ea, hx, _⟩ := hc.idx (i := i) (by omega)
            obtain ⟨b', o', ea', hx', _⟩ := hc'.idx (i := i) (by omega)
            refine .mk b o i ea rfl (by show i < cn; omega) ?_
            conv => cbv
            refine .mk (EA q.cuts[i]) rfl hx ?_
            conv => cbv
            refine .mk b' o' i ea' rfl (by show i < cn'; omega) ?_
            conv => cbv
            refine .mk (EA q'.cuts[i]) rfl hx' ?_
            conv => cbv
            refine ⟨fun l2 => ?_, fun l2 => ?_⟩
            · replace l2 := of_decide_eq_true l2
              try simp only [nc] at l2
              try simp only [minF_t] at l2
              try simp only [minF_f] at l2
              try dsimp only at l2
              refine hK.pure rfl (Mem.le_refl _) ?_
              rw [CakeV.ne_of (.inr (.inl (list_ne (by omega) (by omega) l2)))]
              rfl
            · replace l2 := of_decide_eq_false l2
              try simp only [nc] at l2
              try simp only [minF_t] at l2
              try simp only [minF_f] at l2
              try dsimp only at l2
              refine .i64 ((i + 1 : Nat) : Int) (by show (i : Int) + 1 = _; omega) (by omega) (by omega) ?_
              conv => cbv
              refine ih (i + 1) ⟨by omega, fun j h1 h2 hji => ?_⟩ (by omega) _ ?_
              · rcases Nat.lt_or_ge j i with hlt | hge
                · exact hi2 j h1 h2 hlt
                · have : j = i := by omega
                  subst this
                  omega
              · refine ⟨by cbv <;> simp, by cbv <;> simp, by cbv, Mem.le_refl _⟩
          · replace l1 := of_decide_eq_false l1
            try simp only [nc] at l1
            try simp only [minF_t] at l1
            try simp only [minF_f] at l1
            try dsimp only at l1
            have ec : q.cuts = q'.cuts := list_eq (by omega) fun j h1 h2 => hi2 j h1 h2 (by omega)
            refine OKS.loopH (fun i => i ≤ dn ∧ ∀ j (h1 : j < q.dens.length) (h2 : j < q'.dens.length), j < i → q.dens[j] = q'.dens[j]) (fun i => [(6, EA i)]) (fun _ => []) (fun _ => M) (fun i => dn - i) 0 ⟨by omega, fun j _ _ h => by omega⟩ ?_ ?_
            · refine ⟨by cbv <;> simp, by cbv <;> simp, by cbv, Mem.le_refl _⟩
            · intro i ⟨hi1, hi2⟩ ih
              refine ok28.go 100 (by kernel_rfl) ?_
              conv => cbv
              refine ⟨fun l1 => ?_, fun l1 => ?_⟩
              · replace l1 := of_decide_eq_true l1
                try simp only [nc] at l1
                try simp only [minF_t] at l1
                try simp only [minF_f] at l1
                try dsimp only at l1
                obtain ⟨b, o, ea, hx, _⟩ := hd.idx (i := i) (by omega)
                obtain ⟨b', o', ea', hx', _⟩ := hd'.idx (i := i) (by omega)
                refine .mk b o i ea rfl (by show i < dn; omega) ?_
                conv => cbv
                refine .mk (EA q.dens[i]) rfl hx ?_
                conv => cbv
                refine .mk b' o' i ea' rfl (by show i < dn'; omega) ?_
                conv => cbv
                refine .mk (EA q'.dens[i]) rfl hx' ?_
                conv => cbv
                refine ⟨fun l2 => ?_, fun l2 => ?_⟩
                · replace l2 := of_decide_eq_true l2
                  try simp only [nc] at l2
                  try simp only [minF_t] at l2
                  try simp only [minF_f] at l2
                  try dsimp only at l2
                  refine hK.pure rfl (Mem.le_refl _) ?_
                  rw [CakeV.ne_of (.inr (.inr (list_ne (by omega) (by omega) l2)))]
                  rfl
                · replace l2 := of_decide_eq_false l2
                  try simp only [nc] at l2
                  try simp only [minF_t] at l2
                  try simp only [minF_f] at l2
                  try dsimp only at l2
                  refine .i64 ((i + 1 : Nat) : Int) (by show (i : Int) + 1 = _; omega) (by omega) (by omega) ?_
                  conv => cbv
                  refine ih (i + 1) ⟨by omega, fun j h1 h2 hji => ?_⟩ (by omega) _ ?_
                  · rcases Nat.lt_or_ge j i with hlt | hge
                    · exact hi2 j h1 h2 hlt
                    · have : j = i := by omega
                      subst this
                      omega
                  · refine ⟨by cbv <;> simp, by cbv <;> simp, by cbv, Mem.le_refl _⟩
              · replace l1 := of_decide_eq_false l1
                try simp only [nc] at l1
                try simp only [minF_t] at l1
                try simp only [minF_f] at l1
                try dsimp only at l1
                have ed : q.dens = q'.dens := list_eq (by omega) fun j h1 h2 => hi2 j h1 h2 (by omega)
                refine hK.pure rfl (Mem.le_refl _) ?_
                rw [CakeV.eq_of (by omega) ec ed]
                rfl

theorem Ck.bounds {M : Mem} {p : CP} {q : CakeV} (h : Ck M p q) (hz : q.cuts.length ≤ 1000 ∧ q.dens.length ≤ 1000) : p.cn ≤ 4611686018427387904 ∧ p.dn ≤ 4611686018427387904 := by
  have h1 := h.cuts.len
  have h2 := h.dens.len
  omega

theorem sameCakes_spec {cs cs' : List CakeV} {M : Mem} {ca ca' : Option Addr} {cn ck cn' ck' : Nat} (h : RC M ca cn ck cs) (h' : RC M ca' cn' ck' cs') (hb : cn ≤ 4611686018427387904) (hz : ∀ c ∈ cs, c.cuts.length ≤ 1000 ∧ c.dens.length ≤ 1000) :
    Pure1 44 #[SV ca cn ck, SV ca' cn' ck'] M (.bool (decide (cs = cs'))) := by
  have hn := h.len
  have hn' := h'.len
  refine ok44.pure 300 [SA ca cn ck, SA ca' cn' ck'] rfl (by kernel_rfl) fun c K hK => ?_
  conv => cbv
  refine ⟨fun h1 => ?_, fun h1 => ?_⟩
  · replace h1 := of_decide_eq_true h1
    try simp only [nc] at h1
    try simp only [minF_t] at h1
    try simp only [minF_f] at h1
    try dsimp only at h1
    refine hK.pure rfl (Mem.le_refl _) ?_
    rw [decide_eq_false (list_ne' (by omega))]
    rfl
  · replace h1 := of_decide_eq_false h1
    try simp only [nc] at h1
    try simp only [minF_t] at h1
    try simp only [minF_f] at h1
    try dsimp only at h1
    refine OKS.loopH (fun i => i ≤ cn ∧ ∀ j (h1 : j < cs.length) (h2 : j < cs'.length), j < i → cs[j] = cs'[j]) (fun i => [(5, EA i)]) (fun _ => []) (fun _ => M) (fun i => cn - i) 0 ⟨by omega, fun j _ _ h => by omega⟩ ?_ ?_
    · refine ⟨by cbv <;> simp, by cbv <;> simp, by cbv, Mem.le_refl _⟩
    · intro i ⟨hi1, hi2⟩ ih
      refine ok44.go 100 (by kernel_rfl) ?_
      conv => cbv
      refine ⟨fun l1 => ?_, fun l1 => ?_⟩
      · replace l1 := of_decide_eq_true l1
        try simp only [nc] at l1
        try simp only [minF_t] at l1
        try simp only [minF_f] at l1
        try dsimp only at l1
        obtain ⟨b, o, p, ea, hp, hck⟩ := h.cake (i := i) (by omega)
        obtain ⟨b', o', p', ea', hp', hck'⟩ := h'.cake (i := i) (by omega)
        have hbd := hck.bounds (hz _ (List.getElem_mem (show i < cs.length by omega)))
        refine .mk b o i ea rfl (by show i < cn; omega) ?_
        conv => cbv
        refine .mk p.avs rfl rfl hp ?_
        conv => cbv
        refine .mk b' o' i ea' rfl (by show i < cn'; omega) ?_
        conv => cbv
        refine .mk p'.avs rfl rfl hp' ?_
        conv => cbv
        refine CallS.pure (same_spec hck hck' hbd.1 hbd.2) rfl (.sb fun _ => decide (cs[i] = cs'[i])) rfl rfl ?_
        conv => cbv
        refine ⟨fun l2 => ?_, fun l2 => ?_⟩
        · replace l2 : (!decide (cs[i] = cs'[i])) = true := l2
          refine hK.pure rfl (Mem.le_refl _) ?_
          rw [decide_eq_false (list_ne (j := i) (by omega) (by omega) (by simpa using l2))]
          rfl
        · replace l2 : (!decide (cs[i] = cs'[i])) = false := l2
          have l2 : cs[i] = cs'[i] := by simpa using l2
          refine .i64 ((i + 1 : Nat) : Int) (by show (i : Int) + 1 = _; omega) (by omega) (by omega) ?_
          conv => cbv
          refine ih (i + 1) ⟨by omega, fun j h1 h2 hji => ?_⟩ (by omega) _ ?_
          · rcases Nat.lt_or_ge j i with hlt | hge
            · exact hi2 j h1 h2 hlt
            · have : j = i := by omega
              subst this
              exact l2
          · refine ⟨by cbv <;> simp, by cbv <;> simp, by cbv, Mem.le_refl _⟩
      · replace l1 := of_decide_eq_false l1
        try simp only [nc] at l1
        try simp only [minF_t] at l1
        try simp only [minF_f] at l1
        try dsimp only at l1
        refine hK.pure rfl (Mem.le_refl _) ?_
        rw [decide_eq_true (list_eq (by omega) fun j h1 h2 => hi2 j h1 h2 (by omega))]
        rfl

theorem QV.ext' {a b : QV} (h1 : a.ag = b.ag) (h2 : a.kind = b.kind) (h3 : a.a = b.a) (h4 : a.b = b.b) (h5 : a.ans = b.ans) : a = b := by
  cases a; cases b; simp_all

theorem sameLogs_spec {cs cs' : List QV} {M : Mem} {ca ca' : Option Addr} {cn ck cn' ck' : Nat} (h : RQ M ca cn ck cs) (h' : RQ M ca' cn' ck' cs') (hb : cn ≤ 4611686018427387904) :
    Pure1 18 #[SV ca cn ck, SV ca' cn' ck'] M (.bool (decide (cs = cs'))) := by
  have hn := h.len
  have hn' := h'.len
  refine ok18.pure 300 [SA ca cn ck, SA ca' cn' ck'] rfl (by kernel_rfl) fun c K hK => ?_
  conv => cbv
  refine ⟨fun h1 => ?_, fun h1 => ?_⟩
  · replace h1 := of_decide_eq_true h1
    try simp only [nc] at h1
    try simp only [minF_t] at h1
    try simp only [minF_f] at h1
    try dsimp only at h1
    refine hK.pure rfl (Mem.le_refl _) ?_
    rw [decide_eq_false (list_ne' (by omega))]
    rfl
  · replace h1 := of_decide_eq_false h1
    try simp only [nc] at h1
    try simp only [minF_t] at h1
    try simp only [minF_f] at h1
    try dsimp only at h1
    refine OKS.loopH (fun i => i ≤ cn ∧ ∀ j (h1 : j < cs.length) (h2 : j < cs'.length), j < i → cs[j] = cs'[j]) (fun i => [(5, EA i)]) (fun _ => []) (fun _ => M) (fun i => cn - i) 0 ⟨by omega, fun j _ _ h => by omega⟩ ?_ ?_
    · refine ⟨by cbv <;> simp, by cbv <;> simp, by cbv, Mem.le_refl _⟩
    · intro i ⟨hi1, hi2⟩ ih
      refine ok18.go 100 (by kernel_rfl) ?_
      conv => cbv
      refine ⟨fun l1 => ?_, fun l1 => ?_⟩
      · replace l1 := of_decide_eq_true l1
        try simp only [nc] at l1
        try simp only [minF_t] at l1
        try simp only [minF_f] at l1
        try dsimp only at l1
        obtain ⟨b, o, ea, hp, hw⟩ := h.query (i := i) (by omega)
        obtain ⟨b', o', ea', hp', hw'⟩ := h'.query (i := i) (by omega)
        refine .mk b o i ea rfl (by show i < cn; omega) ?_
        conv => cbv
        refine .mk cs[i].avs rfl rfl hp ?_
        conv => cbv
        refine .mk b' o' i ea' rfl (by show i < cn'; omega) ?_
        conv => cbv
        refine .mk cs'[i].avs rfl rfl hp' ?_
        conv => cbv
        refine ⟨fun l2 => ?_, fun l2 => ?_⟩
        · have : cs[i] ≠ cs'[i] := fun e => by
            rw [e] at l2
            simp at l2
          refine hK.pure rfl (Mem.le_refl _) ?_
          rw [decide_eq_false (list_ne (j := i) (by omega) (by omega) this)]
          rfl
        · have l2 : cs[i] = cs'[i] := by
            simp [appU] at l2
            obtain ⟨k1, k2, k3, k4, k5, k6, k7, k8⟩ := l2
            exact QV.ext' k1 k2 (R.ext' k3 k4) (R.ext' k5 k6) (R.ext' k7 k8)
          refine .i64 ((i + 1 : Nat) : Int) (by show (i : Int) + 1 = _; omega) (by omega) (by omega) ?_
          conv => cbv
          refine ih (i + 1) ⟨by omega, fun j h1 h2 hji => ?_⟩ (by omega) _ ?_
          · rcases Nat.lt_or_ge j i with hlt | hge
            · exact hi2 j h1 h2 hlt
            · have : j = i := by omega
              subst this
              exact l2
          · refine ⟨by cbv <;> simp, by cbv <;> simp, by cbv, Mem.le_refl _⟩
      · replace l1 := of_decide_eq_false l1
        try simp only [nc] at l1
        try simp only [minF_t] at l1
        try simp only [minF_f] at l1
        try dsimp only at l1
        refine hK.pure rfl (Mem.le_refl _) ?_
        rw [decide_eq_true (list_eq (by omega) fun j h1 h2 => hi2 j h1 h2 (by omega))]
        rfl

end Go.SX
