/- Package ask: checks, totals, single answers. -/
import Derived.Test.YtojdihbanakhgaaAgL
namespace Go.SX
open Go.Proofs.Try Go.Proofs

/-! ### Cakes and queries in lists -/

structure QV where
  ag : Int
  kind : Int
  a : R
  b : R
  ans : R
  deriving DecidableEq

abbrev QV.cells (q : QV) : List Value := [EV q.ag, .int .u8 q.kind, EV q.a.n, EV q.a.d, EV q.b.n, EV q.b.d, EV q.ans.n, EV q.ans.d]
abbrev QV.avs (q : QV) : List AV := [EA q.ag, .sym .u8 fun _ => q.kind, EA q.a.n, EA q.a.d, EA q.b.n, EA q.b.d, EA q.ans.n, EA q.ans.d]

structure QV.Wf (q : QV) : Prop where
  ag : I64 q.ag
  kind : 0 ≤ q.kind ∧ q.kind < 256
  a : q.a.Wf
  b : q.b.Wf
  ans : q.ans.Wf

def ElQ : ElR QV := fun _ cs q => cs = q.cells ∧ q.Wf
theorem ElQ.up : ElQ.Up := fun _ _ _ _ _ h => h
theorem ElQ.one : ∀ (M : Mem) cs x, ElQ M cs x → ∀ u ∈ cs, u.oneCell' = true := by
  rintro M cs x ⟨rfl, _⟩ u hu
  simp only [QV.cells, List.mem_cons, List.not_mem_nil, or_false] at hu
  rcases hu with rfl | rfl | rfl | rfl | rfl | rfl | rfl | rfl <;> rfl

abbrev CP.cells (p : CP) : List Value := [EV p.len, SV p.ca p.cn p.ck, SV p.da p.dn p.dk]
abbrev CP.avs (p : CP) : List AV := [EA p.len, SA p.ca p.cn p.ck, SA p.da p.dn p.dk]
def ElC : ElR CakeV := fun M cs c => ∃ p : CP, cs = p.cells ∧ Ck M p c
theorem ElC.up : ElC.Up := fun _ _ h _ _ ⟨p, e, hc⟩ => ⟨p, e, hc.up h⟩
theorem ElC.one : ∀ (M : Mem) cs x, ElC M cs x → ∀ u ∈ cs, u.oneCell' = true := by
  rintro M cs x ⟨p, rfl, _⟩ u hu
  simp only [CP.cells, List.mem_cons, List.not_mem_nil, or_false] at hu
  rcases hu with rfl | rfl | rfl <;> rfl

abbrev RC (M : Mem) (a : Option Addr) (n k : Nat) (l : List CakeV) : Prop := RdL ElC 3 M a n k l
abbrev RQ (M : Mem) (a : Option Addr) (n k : Nat) (l : List QV) : Prop := RdL ElQ 8 M a n k l

theorem RdL.cake {M : Mem} {a : Option Addr} {n k : Nat} {l : List CakeV} (h : RC M a n k l) {i : Nat} (hi : i < l.length) :
    ∃ b o p, a = some ⟨b, o, none⟩ ∧ CellsAt M b (o + i * 3) p.cells ∧ Ck M p l[i] := by
  obtain ⟨b, o, c, e, _, ⟨p, rfl, hp⟩, hm⟩ := h.at (List.getElem?_eq_getElem hi)
  exact ⟨b, o, p, e, hm, hp⟩

theorem RdL.query {M : Mem} {a : Option Addr} {n k : Nat} {l : List QV} (h : RQ M a n k l) {i : Nat} (hi : i < l.length) :
    ∃ b o, a = some ⟨b, o, none⟩ ∧ CellsAt M b (o + i * 8) l[i].cells ∧ l[i].Wf := by
  obtain ⟨b, o, c, e, _, ⟨rfl, hp⟩, hm⟩ := h.at (List.getElem?_eq_getElem hi)
  exact ⟨b, o, e, hm, hp⟩

/-! ### Desks -/

def firstE : List CakeV → Int
  | [] => 0
  | c :: l => if checkC c ≠ 0 then checkC c else firstE l

def deskC (cs : List CakeV) (n : Nat) : Int :=
  if 6 < cs.length ∨ 2000 < n then 4
  else match cs with
    | [] => 8
    | c0 :: _ => if firstE cs ≠ 0 then firstE cs else if cs.all (fun c => decide (c.len = c0.len)) then 0 else 8

theorem firstE_cons {l : List CakeV} {i : Nat} (h : i < l.length) : firstE (l.drop i) = if checkC l[i] ≠ 0 then checkC l[i] else firstE (l.drop (i + 1)) := by
  rw [drop_cons' h]; rfl

theorem deskC_many {cs : List CakeV} {n : Nat} (h1 : 6 < cs.length ∨ 2000 < n) : deskC cs n = 4 := by unfold deskC; rw [if_pos h1]
theorem deskC_nil {n : Nat} (h1 : ¬ 2000 < n) : deskC [] n = 8 := by unfold deskC; rw [if_neg (by simp; omega)]

theorem deskC_ne {cs : List CakeV} {n : Nat} (h1 : ¬ (6 < cs.length ∨ 2000 < n)) (h2 : 0 < cs.length) : deskC cs n = if firstE cs ≠ 0 then firstE cs else if cs.all (fun c => decide (c.len = cs[0].len)) then 0 else 8 := by
  unfold deskC
  rw [if_neg h1]
  cases cs with
  | nil => simp at h2
  | cons c l => rfl

abbrev DA (ca : Option Addr) (cn ck : Nat) (qa : Option Addr) (qn qk : Nat) : AV := .agg [SA ca cn ck, SA qa qn qk]
abbrev DV (ca : Option Addr) (cn ck : Nat) (qa : Option Addr) (qn qk : Nat) : Value := .agg #[SV ca cn ck, SV qa qn qk]

set_option maxRecDepth 100000 in
theorem askCheck_spec {cs : List CakeV} {M : Mem} {ca qa : Option Addr} {cn ck qn qk : Nat} (h : RC M ca cn ck cs) : Pure1 90 #[DV ca cn ck qa qn qk] M (EV (deskC cs qn)) := by
  have hn := h.len
  refine ok90.pure 300 [DA ca cn ck qa qn qk] rfl (by kernel_rfl) fun c K hK => ?_
  conv => cbv
  refine ⟨fun h1 => ?_, fun h1 => ?_⟩
  · replace h1 := of_decide_eq_true h1
    try simp only [nc] at h1
    try simp only [minF_t] at h1
    try simp only [minF_f] at h1
    try dsimp only at h1
    refine hK.pure rfl (Mem.le_refl _) ?_
    rw [deskC_many (.inl (by omega))]
    rfl
  · replace h1 := of_decide_eq_false h1
    try simp only [nc] at h1
    try simp only [minF_t] at h1
    try simp only [minF_f] at h1
    try dsimp only at h1
    refine ⟨fun h2 => ?_, fun h2 => ?_⟩
    · replace h2 := of_decide_eq_true h2
      try simp only [nc] at h2
      try simp only [minF_t] at h2
      try simp only [minF_f] at h2
      try dsimp only at h2
      refine hK.pure rfl (Mem.le_refl _) ?_
      rw [deskC_many (.inr (by omega))]
      rfl
    · replace h2 := of_decide_eq_false h2
      try simp only [nc] at h2
      try simp only [minF_t] at h2
      try simp only [minF_f] at h2
      try dsimp only at h2
      refine ⟨fun h3 => ?_, fun h3 => ?_⟩
      · replace h3 := of_decide_eq_true h3
        try simp only [nc] at h3
        try simp only [minF_t] at h3
        try simp only [minF_f] at h3
        try dsimp only at h3
        refine hK.pure rfl (Mem.le_refl _) ?_
        have : cs = [] := List.eq_nil_of_length_eq_zero (by omega)
        subst this
        rw [deskC_nil (by omega)]
        rfl
      · replace h3 := of_decide_eq_false h3
        try simp only [nc] at h3
        try simp only [minF_t] at h3
        try simp only [minF_f] at h3
        try dsimp only at h3
        rw [deskC_ne (by omega) (by omega)] at hK
        refine OKS.loopH (fun i => i ≤ cn ∧ firstE (cs.drop i) = firstE cs) (fun i => [(25, EA i)]) (fun i => [(4, .none)]) (fun _ => M) (fun i => cn - i) 0 ⟨by omega, by simp⟩ ?_ ?_
        · refine ⟨by cbv <;> simp, by cbv <;> simp, by cbv, Mem.le_refl _⟩
        · intro i ⟨hi1, hi2⟩ ih
          refine ok90.go 100 (by kernel_rfl) ?_
          conv => cbv
          refine ⟨fun l1 => ?_, fun l1 => ?_⟩
          · replace l1 := of_decide_eq_true l1
            try simp only [nc] at l1
            try simp only [minF_t] at l1
            try simp only [minF_f] at l1
            try dsimp only at l1
            obtain ⟨b, o, p, ea, hp, hck⟩ := h.cake (i := i) (by omega)
            refine .mk b o i ea rfl (by show i < cn; omega) ?_
            conv => cbv
            refine .mk p.avs rfl rfl hp ?_
            conv => cbv
            refine CallS.pure (cakeCheck_spec hck) rfl (EA (checkC cs[i])) rfl rfl ?_
            conv => cbv
            rw [firstE_cons (by omega)] at hi2
            refine ⟨fun l2 => ?_, fun l2 => ?_⟩
            · replace l2 := of_decide_eq_true l2
              try simp only [nc] at l2
              try simp only [minF_t] at l2
              try simp only [minF_f] at l2
              try dsimp only at l2
              refine hK.pure rfl (Mem.le_refl _) ?_
              rw [← hi2, if_pos l2, if_pos l2]
              rfl
            · replace l2 := of_decide_eq_false l2
              try simp only [nc] at l2
              try simp only [minF_t] at l2
              try simp only [minF_f] at l2
              try dsimp only at l2
              refine .i64 ((i + 1 : Nat) : Int) (by show (i : Int) + 1 = _; omega) (by omega) (by omega) ?_
              conv => cbv
              refine ih (i + 1) ⟨by omega, by rw [← hi2, if_neg l2]⟩ (by omega) _ ?_
              refine ⟨by cbv <;> simp, by cbv <;> simp, by cbv, Mem.le_refl _⟩
          · replace l1 := of_decide_eq_false l1
            try simp only [nc] at l1
            try simp only [minF_t] at l1
            try simp only [minF_f] at l1
            try dsimp only at l1
            have e0 : firstE cs = 0 := by
              have e1 : cs.drop i = [] := List.drop_eq_nil_of_le (by omega)
              rw [← hi2, e1]
              rfl
            rw [e0, if_neg (by omega)] at hK
            refine OKS.loopH (fun i => i ≤ cn ∧ ∀ j (hj : j < cs.length), j < i → cs[j].len = cs[0].len) (fun i => [(38, EA i)]) (fun i => [(7, .none)]) (fun _ => M) (fun i => cn - i) 0 ⟨by omega, fun j _ h => by omega⟩ ?_ ?_
            · refine ⟨by cbv <;> simp, by cbv <;> simp, by cbv, Mem.le_refl _⟩
            · intro i ⟨hi1, hi2⟩ ih
              refine ok90.go 100 (by kernel_rfl) ?_
              conv => cbv
              refine ⟨fun l1 => ?_, fun l1 => ?_⟩
              · replace l1 := of_decide_eq_true l1
                try simp only [nc] at l1
                try simp only [minF_t] at l1
                try simp only [minF_f] at l1
                try dsimp only at l1
                obtain ⟨b, o, p, ea, hp, hck⟩ := h.cake (i := i) (by omega)
                refine .mk b o i ea rfl (by show i < cn; omega) ?_
                conv => cbv
                refine .mk p.avs rfl rfl hp ?_
                conv => cbv
                obtain ⟨b0, o0, p0, ea0, hp0, hck0⟩ := h.cake (i := 0) (by omega)
                refine .mk b0 o0 0 ea0 rfl (by show 0 < cn; omega) ?_
                conv => cbv
                refine .mk (EA p0.len) rfl hp0.1 ?_
                conv => cbv
                have q1 := hck.len
                have q2 := hck0.len
                refine ⟨fun l2 => ?_, fun l2 => ?_⟩
                · replace l2 := of_decide_eq_true l2
                  try simp only [nc] at l2
                  try simp only [minF_t] at l2
                  try simp only [minF_f] at l2
                  try dsimp only at l2
                  refine hK.pure rfl (Mem.le_refl _) ?_
                  have : ¬ (cs.all (fun c => decide (c.len = cs[0].len)) = true) := fun e => by
                    have := List.all_eq_true.1 e _ (List.getElem_mem (show i < cs.length by omega))
                    simp at this
                    omega
                  rw [if_neg this]
                  rfl
                · replace l2 := of_decide_eq_false l2
                  try simp only [nc] at l2
                  try simp only [minF_t] at l2
                  try simp only [minF_f] at l2
                  try dsimp only at l2
                  refine .i64 ((i + 1 : Nat) : Int) (by show (i : Int) + 1 = _; omega) (by omega) (by omega) ?_
                  conv => cbv
                  refine ih (i + 1) ⟨by omega, fun j hj hji => ?_⟩ (by omega) _ ?_
                  · rcases Nat.lt_or_ge j i with hlt | hge
                    · exact hi2 j hj hlt
                    · have : j = i := by omega
                      subst this
                      omega
                  · refine ⟨by cbv <;> simp, by cbv <;> simp, by cbv, Mem.le_refl _⟩
              · replace l1 := of_decide_eq_false l1
                try simp only [nc] at l1
                try simp only [minF_t] at l1
                try simp only [minF_f] at l1
                try dsimp only at l1
                refine hK.pure rfl (Mem.le_refl _) ?_
                have : cs.all (fun c => decide (c.len = cs[0].len)) = true := List.all_eq_true.2 fun x hx => by
                  obtain ⟨j, hj, rfl⟩ := List.getElem_of_mem hx
                  simpa using hi2 j hj (by omega)
                rw [if_pos this]
                rfl

def hasC (n : Nat) (ag : Int) : Bool := decide (0 ≤ ag) && decide (ag < n)

theorem has_spec {M : Mem} {ca qa : Option Addr} {cn ck qn qk : Nat} (ag : Int) : Pure1 91 #[DV ca cn ck qa qn qk, EV ag] M (.bool (hasC cn ag)) := by
  refine ok91.pure 300 [DA ca cn ck qa qn qk, EA ag] rfl (by kernel_rfl) fun c K hK => ?_
  conv => cbv
  refine ⟨fun h1 => ?_, fun h1 => ?_⟩
  · replace h1 := of_decide_eq_true h1
    try simp only [nc] at h1
    try simp only [minF_t] at h1
    try simp only [minF_f] at h1
    try dsimp only at h1
    refine hK.pure rfl (Mem.le_refl _) ?_
    simp only [hasC, decide_eq_true h1, Bool.true_and]
    rfl
  · replace h1 := of_decide_eq_false h1
    try simp only [nc] at h1
    try simp only [minF_t] at h1
    try simp only [minF_f] at h1
    try dsimp only at h1
    refine hK.pure rfl (Mem.le_refl _) ?_
    simp only [hasC, decide_eq_false h1, Bool.false_and]
    rfl

def getC (cs : List CakeV) (ag : Int) : CakeV := cs.getD ag.toNat ⟨0, [], []⟩

theorem getC_eq {cs : List CakeV} {i : Nat} {ag : Int} (h : ag = (i : Int)) (hi : i < cs.length) : getC cs ag = cs[i] := by
  rw [getC, h, Int.toNat_natCast, List.getD_eq_getElem?_getD, List.getElem?_eq_getElem hi]; rfl

theorem hasC_nat {n : Nat} {ag : Int} (h : hasC n ag = true) : ∃ i : Nat, ag = (i : Int) ∧ i < n := by
  simp only [hasC, Bool.and_eq_true, decide_eq_true_eq] at h
  exact ⟨ag.toNat, by omega, by omega⟩

def totalA (cs : List CakeV) (n : Nat) (ag : Int) : Int × Int :=
  if deskC cs n ≠ 0 then (0, deskC cs n) else if hasC cs.length ag = false then (0, 2) else totalC (getC cs ag)

theorem askTotal_spec {cs : List CakeV} {M : Mem} {ca qa : Option Addr} {cn ck qn qk : Nat} (h : RC M ca cn ck cs) (ag : Int) : Pure1 36 #[DV ca cn ck qa qn qk, EV ag] M (.tuple #[EV (totalA cs qn ag).1, EV (totalA cs qn ag).2]) := by
  have hn := h.len
  refine ok36.pure 300 [DA ca cn ck qa qn qk, EA ag] rfl (by kernel_rfl) fun c K hK => ?_
  conv => cbv
  refine CallS.pure (askCheck_spec h) rfl (EA (deskC cs qn)) rfl rfl ?_
  conv => cbv
  refine ⟨fun h1 => ?_, fun h1 => ?_⟩
  · replace h1 := of_decide_eq_true h1
    try simp only [nc] at h1
    try simp only [minF_t] at h1
    try simp only [minF_f] at h1
    try dsimp only at h1
    refine hK.pure rfl (Mem.le_refl _) ?_
    rw [totalA, if_pos h1]
    rfl
  · replace h1 := of_decide_eq_false h1
    try simp only [nc] at h1
    try simp only [minF_t] at h1
    try simp only [minF_f] at h1
    try dsimp only at h1
    refine CallS.pure (has_spec ag) rfl (.sb fun _ => hasC cn ag) rfl rfl ?_
    conv => cbv
    refine ⟨fun h2 => ?_, fun h2 => ?_⟩
    · replace h2 : (!hasC cn ag) = true := h2
      refine hK.pure rfl (Mem.le_refl _) ?_
      rw [totalA, if_neg h1, if_pos (by rw [← hn]; simpa using h2)]
      rfl
    · replace h2 : (!hasC cn ag) = false := h2
      have h2 : hasC cn ag = true := by simpa using h2
      obtain ⟨i, rfl, hi⟩ := hasC_nat h2
      obtain ⟨b, o, p, ea, hp, hck⟩ := h.cake (i := i) (by omega)
      refine .mk b o i ea rfl hi ?_
      conv => cbv
      refine .mk p.avs rfl rfl hp ?_
      conv => cbv
      refine CallS.pure (total_spec hck) rfl (.tup [EA _, EA _]) rfl rfl ?_
      conv => cbv
      refine hK.pure rfl (Mem.le_refl _) ?_
      rw [totalA, if_neg h1, if_neg (by rw [← hn, h2]; simp), getC_eq rfl (by omega)]
      rfl

theorem aValue_spec {cs : List CakeV} {M : Mem} {ca qa : Option Addr} {cn ck qn qk : Nat} (h : RC M ca cn ck cs) {ag : Int} (hag : hasC cn ag = true) (a b : R) (ha : a.Wf) (hb : b.Wf) :
    Pure1 88 #[DV ca cn ck qa qn qk, EV ag, RV a, RV b] M (RE (valueC (getC cs ag) a b)) := by
  have hn := h.len
  obtain ⟨i, rfl, hi⟩ := hasC_nat hag
  obtain ⟨b', o, p, ea, hp, hck⟩ := h.cake (i := i) (by omega)
  rw [getC_eq rfl (by omega)]
  refine ok88.pure 300 [DA ca cn ck qa qn qk, EA i, RA a, RA b] rfl (by kernel_rfl) fun c K hK => ?_
  conv => cbv
  refine .mk b' o i ea rfl hi ?_
  conv => cbv
  refine .mk p.avs rfl rfl hp ?_
  conv => cbv
  refine CallS.pure (value_spec hck a b ha hb) rfl (REA _) rfl rfl ?_
  conv => cbv
  refine hK.pure rfl (Mem.le_refl _) ?_
  rfl

theorem aMark_spec {cs : List CakeV} {M : Mem} {ca qa : Option Addr} {cn ck qn qk : Nat} (h : RC M ca cn ck cs) {ag : Int} (hag : hasC cn ag = true) (a b : R) (ha : a.Wf) (hb : b.Wf) :
    Pure1 89 #[DV ca cn ck qa qn qk, EV ag, RV a, RV b] M (RE (markC (getC cs ag) a b)) := by
  have hn := h.len
  obtain ⟨i, rfl, hi⟩ := hasC_nat hag
  obtain ⟨b', o, p, ea, hp, hck⟩ := h.cake (i := i) (by omega)
  rw [getC_eq rfl (by omega)]
  refine ok89.pure 300 [DA ca cn ck qa qn qk, EA i, RA a, RA b] rfl (by kernel_rfl) fun c K hK => ?_
  conv => cbv
  refine .mk b' o i ea rfl hi ?_
  conv => cbv
  refine .mk p.avs rfl rfl hp ?_
  conv => cbv
  refine CallS.pure (mark_spec hck a b ha hb) rfl (REA _) rfl rfl ?_
  conv => cbv
  refine hK.pure rfl (Mem.le_refl _) ?_
  rfl

end Go.SX
