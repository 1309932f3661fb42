/- Package ask: Count, Replay. -/
import Derived.Test.YtojdihbanakhgaaListA
namespace Go.SX
open Go.Proofs.Try Go.Proofs

def ansF (k : Int) (c : CakeV) (a b : R) : R × Int := if k = 2 then markC c a b else valueC c a b
def ansQ (cs : List CakeV) (q : QV) : R × Int := ansF q.kind (getC cs q.ag) q.a q.b
def rightC (cs : List CakeV) (q : QV) : Bool := hasC cs.length q.ag && decide (1 ≤ q.kind) && decide (q.kind ≤ 2) && decide ((ansQ cs q).2 = 0) && decide ((ansQ cs q).1 = q.ans)
def replL (cs : List CakeV) : List QV → Nat → Nat
  | [], i => i
  | q :: l, i => if rightC cs q then replL cs l (i + 1) else i
def replayC (cs : List CakeV) (log : List QV) : Int × Int := if deskC cs log.length ≠ 0 then (0, deskC cs log.length) else ((replL cs log 0 : Nat), 0)

theorem wf_valueC (c : CakeV) (a b : R) : (valueC c a b).1.Wf := by
  unfold valueC
  split
  · exact zeroR_wf
  · split
    · exact zeroR_wf
    · have : ∀ (l : List (Int × Int)) (sum at_ : R), sum.Wf → (valL b l sum at_).1.Wf := by
        intro l
        induction l with
        | nil => intro s t h; exact h
        | cons x l ih =>
          intro s t h
          obtain ⟨e, d⟩ := x
          simp only [valL]
          repeat' split
          all_goals first | exact zeroR_wf | exact ih _ _ h | exact ih _ _ (addR_wf _ _)
      exact this _ _ _ (of_wf (by simp [I64]))

theorem wf_walk (l : List (Int × Int)) : ∀ (at_ : R) (st : MSt), st.Wf → (walkL l at_ st).2.Wf := by
  induction l with
  | nil => intro _ st h; exact h
  | cons x l ih =>
    intro at_ st h
    obtain ⟨e, d⟩ := x
    simp only [walkL]
    repeat' split
    all_goals first | exact h | exact visit_wf _ _ _ h | exact ih _ _ h | exact ih _ _ (visit_wf _ _ _ h)

theorem wf_markC (c : CakeV) (a v : R) (ha : a.Wf) (hv : v.Wf) : (markC c a v).1.Wf := by
  unfold markC
  split
  · exact zeroR_wf
  · split
    · exact zeroR_wf
    · split
      · exact ha
      · simp only
        repeat' split
        all_goals first | exact zeroR_wf | skip
        all_goals
          have hst : MSt.Wf ⟨v, 6, R.zero⟩ := ⟨hv, by simp [I64], zeroR_wf⟩
          exact (wf_walk _ _ _ hst).out

theorem wf_ansF (k : Int) (c : CakeV) (a b : R) (ha : a.Wf) (hb : b.Wf) : (ansF k c a b).1.Wf := by
  unfold ansF
  split
  · exact wf_markC _ _ _ ha hb
  · exact wf_valueC _ _ _

theorem R.ext' {a b : R} (h1 : a.n = b.n) (h2 : a.d = b.d) : a = b := by cases a; cases b; simp_all

def cntL (l : List QV) (ag : Int) : Nat := (l.filter fun q => decide (q.ag = ag)).length
def countC (l : List QV) (ag : Int) : Int := if ag = -1 then (l.length : Nat) else (cntL l ag : Nat)

theorem cntL_snoc (l : List QV) (q : QV) (ag : Int) : cntL (l ++ [q]) ag = cntL l ag + if q.ag = ag then 1 else 0 := by
  unfold cntL
  rw [List.filter_append, List.length_append]
  congr 1
  by_cases h : q.ag = ag <;> simp [h]
theorem cntL_le (l : List QV) (ag : Int) : cntL l ag ≤ l.length := List.length_filter_le _ _

theorem count_spec {l : List QV} {a : Option Addr} {n k : Nat} {M : Mem} (h : RQ M a n k l) (hs : n ≤ 1000000) (ag : Int) : Pure1 39 #[SV a n k, EV ag] M (EV (countC l ag)) := by
  have hn := h.len
  refine ok39.pure 300 [SA a n k, EA ag] rfl (by kernel_rfl) fun c K hK => ?_
  conv => cbv
  refine ⟨fun h1 => ?_, fun h1 => ?_⟩
  · replace h1 := of_decide_eq_true h1
    try simp only [nc] at h1
    try simp only [minF_t] at h1
    try simp only [minF_f] at h1
    try dsimp only at h1
    refine hK.pure rfl (Mem.le_refl _) ?_
    rw [countC, if_pos h1, ← hn]
    rfl
  · replace h1 := of_decide_eq_false h1
    try simp only [nc] at h1
    try simp only [minF_t] at h1
    try simp only [minF_f] at h1
    try dsimp only at h1
    rw [countC, if_neg h1] at hK
    refine OKS.loopH (fun i => i ≤ n) (fun i => [(5, EA (cntL (l.take i) ag : Nat)), (14, EA i)]) (fun _ => [(7, .none)]) (fun _ => M) (fun i => n - i) 0 (by omega) ?_ ?_
    · refine ⟨by cbv <;> simp [cntL], by cbv <;> simp, by cbv, Mem.le_refl _⟩
    · intro i hi1 ih
      have hcl := cntL_le (l.take i) ag
      rw [List.length_take] at hcl
      refine ok39.go 100 (by kernel_rfl) ?_
      conv => cbv
      refine ⟨fun l1 => ?_, fun l1 => ?_⟩
      · replace l1 := of_decide_eq_true l1
        try simp only [nc] at l1
        try simp only [minF_t] at l1
        try simp only [minF_f] at l1
        try dsimp only at l1
        obtain ⟨b, o, ea, hp, hw⟩ := h.query (i := i) (by omega)
        have hsn := cntL_snoc (l.take i) l[i] ag
        rw [← take_snoc (show i < l.length by omega)] at hsn
        refine .mk b o i ea rfl (by show i < n; omega) ?_
        conv => cbv
        refine .mk l[i].avs rfl rfl hp ?_
        conv => cbv
        refine ⟨fun l2 => ?_, fun l2 => ?_⟩
        · replace l2 := of_decide_eq_true l2
          try simp only [nc] at l2
          try simp only [minF_t] at l2
          try simp only [minF_f] at l2
          try dsimp only at l2
          rw [if_pos l2] at hsn
          refine .i64 ((cntL (l.take (i + 1)) ag : Nat) : Int) (by rw [hsn]; rfl) (by omega) (by omega) ?_
          conv => cbv
          refine .i64 ((i + 1 : Nat) : Int) (by show (i : Int) + 1 = _; omega) (by omega) (by omega) ?_
          conv => cbv
          refine ih (i + 1) (by show i + 1 ≤ n; omega) (by show n - (i + 1) < n - i; omega) _ ?_
          refine ⟨by cbv <;> simp, by cbv <;> simp, by cbv, Mem.le_refl _⟩
        · replace l2 := of_decide_eq_false l2
          try simp only [nc] at l2
          try simp only [minF_t] at l2
          try simp only [minF_f] at l2
          try dsimp only at l2
          refine .i64 ((i + 1 : Nat) : Int) (by show (i : Int) + 1 = _; omega) (by omega) (by omega) ?_
          conv => cbv
          refine ih (i + 1) (by show i + 1 ≤ n; omega) (by show n - (i + 1) < n - i; omega) _ ?_
          rw [if_neg l2, Nat.add_zero] at hsn
          refine ⟨by cbv <;> simp [hsn], by cbv <;> simp, by cbv, Mem.le_refl _⟩
      · replace l1 := of_decide_eq_false l1
        try simp only [nc] at l1
        try simp only [minF_t] at l1
        try simp only [minF_f] at l1
        try dsimp only at l1
        have : i = l.length := by omega
        subst this
        refine hK.pure rfl (Mem.le_refl _) ?_
        rw [List.take_length]
        rfl

theorem replL_cons {cs : List CakeV} {l : List QV} {i : Nat} (h : i < l.length) (j : Nat) : replL cs (l.drop i) j = if rightC cs l[i] then replL cs (l.drop (i + 1)) (j + 1) else j := by
  rw [drop_cons' h]; rfl

set_option maxHeartbeats 1000000 in
set_option maxRecDepth 100000 in
theorem replay_spec {cs : List CakeV} {l : List QV} {M : Mem} {ca qa : Option Addr} {cn ck qn qk : Nat} (h : RC M ca cn ck cs) (hq : RQ M qa qn qk l) :
    Pure1 38 #[SV ca cn ck, SV qa qn qk] M (.tuple #[EV (replayC cs l).1, EV (replayC cs l).2]) := by
  have hn := h.len
  have hqn := hq.len
  refine ok38.pure 300 [SA ca cn ck, SA qa qn qk] rfl (by kernel_rfl) fun c K hK => ?_
  conv => cbv
  refine CallS.pure (askCheck_spec h) rfl (EA (deskC cs qn)) rfl rfl ?_
  conv => cbv
  refine ⟨fun h1 => ?_, fun h1 => ?_⟩
  · replace h1 := of_decide_eq_true h1
    try simp only [nc] at h1
    try simp only [minF_t] at h1
    try simp only [minF_f] at h1
    try dsimp only at h1
    refine hK.pure rfl (Mem.le_refl _) ?_
    rw [replayC, if_pos (by rw [← hqn]; exact h1), ← hqn]
    rfl
  · replace h1 := of_decide_eq_false h1
    try simp only [nc] at h1
    try simp only [minF_t] at h1
    try simp only [minF_f] at h1
    try dsimp only at h1
    have hbound : l.length ≤ 2000 := by
      have h0 : deskC cs qn = 0 := by omega
      unfold deskC at h0
      split at h0
      · omega
      · omega
    rw [replayC, if_neg (by rw [← hqn]; exact h1)] at hK
    refine OKS.loopH (fun i => i ≤ qn ∧ replL cs (l.drop i) i = replL cs l 0) (fun i => [(27, EA i)]) (fun _ => [(9, .none), (11, .none)]) (fun _ => M) (fun i => qn - i) 0 ⟨by omega, by simp⟩ ?_ ?_
    · refine ⟨by cbv <;> simp, by cbv <;> simp, by cbv, Mem.le_refl _⟩
    · intro i ⟨hi1, hi2⟩ ih
      refine ok38.go 100 (by kernel_rfl) ?_
      conv => cbv
      refine ⟨fun l1 => ?_, fun l1 => ?_⟩
      · replace l1 := of_decide_eq_true l1
        try simp only [nc] at l1
        try simp only [minF_t] at l1
        try simp only [minF_f] at l1
        try dsimp only at l1
        obtain ⟨b, o, ea, hp, hw⟩ := hq.query (i := i) (by omega)
        rw [replL_cons (by omega)] at hi2
        refine .mk b o i ea rfl (by show i < qn; omega) ?_
        conv => cbv
        refine .mk l[i].avs rfl rfl hp ?_
        conv => cbv
        refine ⟨fun l2 => ?_, fun l2 => ?_⟩
        · replace l2 := of_decide_eq_true l2
          try simp only [nc] at l2
          try simp only [minF_t] at l2
          try simp only [minF_f] at l2
          try dsimp only at l2
          refine CallS.pure (has_spec l[i].ag) rfl (.sb fun _ => hasC cn l[i].ag) rfl rfl ?_
          conv => cbv
          refine ⟨fun h3 => ?_, fun h3 => ?_⟩
          · replace h3 : (!hasC cn l[i].ag) = true := h3
            have h3 : hasC cs.length l[i].ag = false := by rw [← hn]; simpa using h3
            refine hK.pure rfl (Mem.le_refl _) ?_
            rw [← hi2, if_neg (by simp [rightC, h3])]
            rfl
          · replace h3 : (!hasC cn l[i].ag) = false := h3
            have h3 : hasC cn l[i].ag = true := by simpa using h3
            refine ⟨fun k1 => ?_, fun k1 => ?_⟩
            · replace k1 := of_decide_eq_true k1
              try simp only [nc] at k1
              try simp only [minF_t] at k1
              try simp only [minF_f] at k1
              try dsimp only at k1
              refine hK.pure rfl (Mem.le_refl _) ?_
              rw [← hi2, if_neg (by simp [rightC]; omega)]
              rfl
            · replace k1 := of_decide_eq_false k1
              try simp only [nc] at k1
              try simp only [minF_t] at k1
              try simp only [minF_f] at k1
              try dsimp only at k1
              refine ⟨fun k2 => ?_, fun k2 => ?_⟩
              · replace k2 := of_decide_eq_true k2
                try simp only [nc] at k2
                try simp only [minF_t] at k2
                try simp only [minF_f] at k2
                try dsimp only at k2
                refine hK.pure rfl (Mem.le_refl _) ?_
                rw [← hi2, if_neg (by simp [rightC]; omega)]
                rfl
              · replace k2 := of_decide_eq_false k2
                try simp only [nc] at k2
                try simp only [minF_t] at k2
                try simp only [minF_f] at k2
                try dsimp only at k2
                have ea2 : ansQ cs l[i] = markC (getC cs l[i].ag) l[i].a l[i].b := by rw [ansQ, ansF, if_pos l2]
                refine CallS.pure (aMark_spec h h3 l[i].a l[i].b hw.a hw.b) rfl (REA (ansQ cs l[i])) rfl (congrArg RE ea2) ?_
                conv => cbv
                refine ⟨fun e1 => ?_, fun e1 => ?_⟩
                · replace e1 := of_decide_eq_true e1
                  try simp only [nc] at e1
                  try simp only [minF_t] at e1
                  try simp only [minF_f] at e1
                  try dsimp only at e1
                  refine hK.pure rfl (Mem.le_refl _) ?_
                  rw [← hi2, if_neg (by simp [rightC]; omega)]
                  rfl
                · replace e1 := of_decide_eq_false e1
                  try simp only [nc] at e1
                  try simp only [minF_t] at e1
                  try simp only [minF_f] at e1
                  try dsimp only at e1
                  refine ⟨fun e2 => ?_, fun e2 => ?_⟩
                  · have hne : ¬ (ansQ cs l[i]).1 = l[i].ans := fun e => by
                      rw [e] at e2
                      simp at e2
                    refine hK.pure rfl (Mem.le_refl _) ?_
                    rw [← hi2, if_neg (by simp [rightC, hne])]
                    rfl
                  · have heq : (ansQ cs l[i]).1 = l[i].ans := by
                      simp [appU] at e2
                      exact R.ext' e2.1 e2.2
                    have hr : rightC cs l[i] = true := by
                      rw [hn] at h3
                      simp [rightC, h3, heq]
                      omega
                    refine .i64 ((i + 1 : Nat) : Int) (by show (i : Int) + 1 = _; omega) (by omega) (by omega) ?_
                    conv => cbv
                    refine ih (i + 1) ⟨by omega, by rw [← hi2, if_pos hr]⟩ (by omega) _ ?_
                    refine ⟨by cbv <;> simp, by cbv <;> simp, by cbv, Mem.le_refl _⟩
        · replace l2 := of_decide_eq_false l2
          try simp only [nc] at l2
          try simp only [minF_t] at l2
          try simp only [minF_f] at l2
          try dsimp only at l2
          refine CallS.pure (has_spec l[i].ag) rfl (.sb fun _ => hasC cn l[i].ag) rfl rfl ?_
          conv => cbv
          refine ⟨fun h3 => ?_, fun h3 => ?_⟩
          · replace h3 : (!hasC cn l[i].ag) = true := h3
            have h3 : hasC cs.length l[i].ag = false := by rw [← hn]; simpa using h3
            refine hK.pure rfl (Mem.le_refl _) ?_
            rw [← hi2, if_neg (by simp [rightC, h3])]
            rfl
          · replace h3 : (!hasC cn l[i].ag) = false := h3
            have h3 : hasC cn l[i].ag = true := by simpa using h3
            refine ⟨fun k1 => ?_, fun k1 => ?_⟩
            · replace k1 := of_decide_eq_true k1
              try simp only [nc] at k1
              try simp only [minF_t] at k1
              try simp only [minF_f] at k1
              try dsimp only at k1
              refine hK.pure rfl (Mem.le_refl _) ?_
              rw [← hi2, if_neg (by simp [rightC]; omega)]
              rfl
            · replace k1 := of_decide_eq_false k1
              try simp only [nc] at k1
              try simp only [minF_t] at k1
              try simp only [minF_f] at k1
              try dsimp only at k1
              refine ⟨fun k2 => ?_, fun k2 => ?_⟩
              · replace k2 := of_decide_eq_true k2
                try simp only [nc] at k2
                try simp only [minF_t] at k2
                try simp only [minF_f] at k2
                try dsimp only at k2
                refine hK.pure rfl (Mem.le_refl _) ?_
                rw [← hi2, if_neg (by simp [rightC]; omega)]
                rfl
              · replace k2 := of_decide_eq_false k2
                try simp only [nc] at k2
                try simp only [minF_t] at k2
                try simp only [minF_f] at k2
                try dsimp only at k2
                have ea2 : ansQ cs l[i] = valueC (getC cs l[i].ag) l[i].a l[i].b := by rw [ansQ, ansF, if_neg l2]
                refine CallS.pure (aValue_spec h h3 l[i].a l[i].b hw.a hw.b) rfl (REA (ansQ cs l[i])) rfl (congrArg RE ea2) ?_
                conv => cbv
                refine ⟨fun e1 => ?_, fun e1 => ?_⟩
                · replace e1 := of_decide_eq_true e1
                  try simp only [nc] at e1
                  try simp only [minF_t] at e1
                  try simp only [minF_f] at e1
                  try dsimp only at e1
                  refine hK.pure rfl (Mem.le_refl _) ?_
                  rw [← hi2, if_neg (by simp [rightC]; omega)]
                  rfl
                · replace e1 := of_decide_eq_false e1
                  try simp only [nc] at e1
                  try simp only [minF_t] at e1
                  try simp only [minF_f] at e1
                  try dsimp only at e1
                  refine ⟨fun e2 => ?_, fun e2 => ?_⟩
                  · have hne : ¬ (ansQ cs l[i]).1 = l[i].ans := fun e => by
                      rw [e] at e2
                      simp at e2
                    refine hK.pure rfl (Mem.le_refl _) ?_
                    rw [← hi2, if_neg (by simp [rightC, hne])]
                    rfl
                  · have heq : (ansQ cs l[i]).1 = l[i].ans := by
                      simp [appU] at e2
                      exact R.ext' e2.1 e2.2
                    have hr : rightC cs l[i] = true := by
                      rw [hn] at h3
                      simp [rightC, h3, heq]
                      omega
                    refine .i64 ((i + 1 : Nat) : Int) (by show (i : Int) + 1 = _; omega) (by omega) (by omega) ?_
                    conv => cbv
                    refine ih (i + 1) ⟨by omega, by rw [← hi2, if_pos hr]⟩ (by omega) _ ?_
                    refine ⟨by cbv <;> simp, by cbv <;> simp, by cbv, Mem.le_refl _⟩
      · replace l1 := of_decide_eq_false l1
        try simp only [nc] at l1
        try simp only [minF_t] at l1
        try simp only [minF_f] at l1
        try dsimp only at l1
        have : i = l.length := by omega
        subst this
        refine hK.pure rfl (Mem.le_refl _) ?_
        have e1 : l.drop l.length = [] := List.drop_eq_nil_of_le (Nat.le_refl _)
        rw [e1] at hi2
        rw [← hi2, ← hqn]
        rfl

end Go.SX
