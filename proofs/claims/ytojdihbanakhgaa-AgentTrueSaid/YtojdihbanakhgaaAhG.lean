/- Layer 36: one question put to a meeting that goes on. -/
import Derived.Test.YtojdihbanakhgaaAhF
import Derived.Test.YtojdihbanakhgaaMeetA
namespace Go.SX
open Go.Proofs.Try Go.Proofs

theorem StoreS.objM {c : Ct} {M : Mem} {b o : Unit → Nat} {l : List AV} {p : Mem → Prop} {T : Nat} {cs cs' : List Value} (hM : M (b ()) = some (.obj (.cells cs.toArray T (0, 0)))) (hB : c.B0 ≤ b () ∨ c.lent (b ()) = true) (ho : o () + l.length ≤ cs.length) (h1 : l.all AV.one = true)
    (hcs : spliceV cs (o ()) (AV.denL (fun _ => 0) l) = cs') (hp : ∀ M', M' = M.set (b ()) (.obj (.cells cs'.toArray T (0, 0))) → p M') : StoreS c b o l M p := .obj hM hB ho h1 (by rw [hcs]; exact hp _ rfl)

def actC (x : ActV) : CakeV := if x.after ≠ -1 ∧ x.after ≤ x.asked then x.told else x.own
def ansK (k : Int) (c : CakeV) (a b : R) : R × Int := if k = 1 then valueC c a b else if k = 2 then markC c a b else (R.zero, 2)
def act0 : ActV := ⟨⟨0, [], []⟩, ⟨0, [], []⟩, 0, 0⟩
def getA (l : List ActV) (ag : Int) : ActV := l.getD ag.toNat act0
def ActV.more (x : ActV) : ActV := ⟨x.own, x.told, x.after, x.asked + 1⟩

structure MtV where
  acts : List ActV
  log : List QV
  deriving DecidableEq

def ansM (m : MtV) (q : QV) : R × Int := ansK q.kind (actC (getA m.acts q.ag)) q.a q.b
def stepE (m : MtV) (q : QV) : R × Int :=
  if hasC m.acts.length q.ag = false then (R.zero, 2)
  else if (ansM m q).2 ≠ 0 then (R.zero, (ansM m q).2)
  else if 2000 ≤ m.log.length then (R.zero, 4)
  else ((ansM m q).1, 0)
def stepM (m : MtV) (q : QV) : MtV :=
  if (stepE m q).2 = 0 then ⟨m.acts.set q.ag.toNat (getA m.acts q.ag).more, m.log ++ [⟨q.ag, q.kind, q.a, q.b, (stepE m q).1⟩]⟩ else m

theorem stepM_bad {m : MtV} {q : QV} (h : (stepE m q).2 ≠ 0) : stepM m q = m := by rw [stepM, if_neg h]

theorem getA_eq {l : List ActV} {i : Nat} {ag : Int} (h : ag = (i : Int)) (hi : i < l.length) : getA l ag = l[i] := by
  rw [getA, h, Int.toNat_natCast, List.getD_eq_getElem?_getD, List.getElem?_eq_getElem hi]; rfl

theorem wf_ansK (k : Int) (c : CakeV) (a b : R) (ha : a.Wf) (hb : b.Wf) : (ansK k c a b).1.Wf := by
  unfold ansK
  split
  · exact wf_valueC _ _ _
  · split
    · exact wf_markC _ _ _ ha hb
    · exact zeroR_wf

def LM (mb g : Nat) (ho : Option Nat) (b : Nat) : Bool := b == mb || b == g || ho == some b

def StepPost (B' : Nat) (m : MtV) (q : QV) (mb g ak : Nat) (ho : Option Nat) (B : Nat) (M' : Mem) (v : Value) : Prop :=
  v = .tuple #[RV (stepE m q).1, EV (stepE m q).2] ∧ ∃ ho' qk', MtgAt B' M' mb g ak ho' qk' (stepM m q).acts (stepM m q).log ∧ ∀ h, ho' = some h → ho = some h ∨ B ≤ h

theorem flatA_len : ∀ ps : List AP, ((ps.map AP.cells).flatten).length = ps.length * 8
  | [] => rfl
  | p :: ps => by simp [flatA_len ps]; omega

theorem splice_asked : ∀ (ps : List AP) (i : Nat) (p : AP) (n : Int), ps[i]? = some p → spliceV ((ps.map AP.cells).flatten) (i * 8 + 7) [EV n] = ((ps.set i ⟨p.own, p.told, p.after, n⟩).map AP.cells).flatten
  | [], i, p, _, h => by simp at h
  | q :: ps, 0, p, n, h => by
    simp at h
    subst h
    simp [spliceV, AP.cells]
  | q :: ps, i + 1, p, n, h => by
    have ih := splice_asked ps i p n (by simpa using h)
    rw [List.set_cons_succ, List.map_cons, List.map_cons, List.flatten_cons, List.flatten_cons, ← ih]
    have hq : q.cells.length = 8 := rfl
    unfold spliceV
    have e1 : (q.cells ++ (ps.map AP.cells).flatten).take ((i + 1) * 8 + 7) = q.cells ++ ((ps.map AP.cells).flatten).take (i * 8 + 7) := by
      rw [List.take_append, hq, List.take_of_length_le (by rw [hq]; omega)]
      congr 2
      omega
    have e2 : (q.cells ++ (ps.map AP.cells).flatten).drop ((i + 1) * 8 + 7 + [EV n].length) = ((ps.map AP.cells).flatten).drop (i * 8 + 7 + [EV n].length) := by
      rw [List.drop_append, hq, List.drop_of_length_le (by rw [hq]; simp), List.nil_append]
      congr 1
      simp
      omega
    rw [e1, e2, List.append_assoc, List.append_assoc, List.append_assoc]

theorem MtgAt.at {M : Mem} {mb g ak : Nat} {ho : Option Nat} {qk : Nat} {acts : List ActV} {log : List QV} {B : Nat} (h : MtgAt B M mb g ak ho qk acts log) :
    M.cell mb 0 = some (SV (some ⟨g, 0, none⟩) acts.length ak) ∧ M.cell mb 1 = some (SV (hadr ho) log.length qk) := by
  constructor <;> (unfold Mem.cell; rw [h.obj]; rfl)

set_option maxHeartbeats 2000000 in
set_option maxRecDepth 100000 in
theorem step_spec {m : MtV} {q : QV} (hq : q.Wf) {M : Mem} {mb g ak : Nat} {ho : Option Nat} {qk : Nat} {B' : Nat} (h : MtgAt B' M mb g ak ho qk m.acts m.log) (hs : m.log.length ≤ 2000) (hbig : ∀ x ∈ m.acts, -1000000 ≤ x.asked ∧ x.asked ≤ 1000000) :
    SpecU 70 (AV.vals [PA mb, .agg q.avs]) M (LM mb g ho) (StepPost B' m q mb g ak ho) := by
  have hat := h.at
  refine ok70.specU 12 [PA mb, .agg q.avs] rfl (by kernel_rfl) fun c K hK => ?_
  have bad : ∀ {s : S} {r : AV} {e : Int}, s.M = M → r.ground = true → r.val = .tuple #[RV R.zero, EV e] → stepE m q = (R.zero, e) → e ≠ 0 → K s r := fun {s r e} e1 e2 e3 e4 e5 => by
    have e6 : (stepE m q).2 ≠ 0 := by rw [e4]; exact e5
    refine hK.ground e2 (by rw [e1]; exact Keeps.refl _ _) ?_
    rw [e1]
    exact ⟨by rw [e3, e4], ho, qk, by rw [stepM_bad e6]; exact h, fun _ hh => .inl hh⟩
  conv => cbv
  refine ⟨fun n1 => ?_, fun n1 => ?_⟩
  · replace n1 := of_decide_eq_true n1
    try simp only [nc] at n1
    try simp only [minF_t] at n1
    try simp only [minF_f] at n1
    try dsimp only at n1
    refine bad rfl rfl rfl ?_ (by decide)
    rw [stepE, if_pos]
    simp [hasC]; omega
  · replace n1 := of_decide_eq_false n1
    try simp only [nc] at n1
    try simp only [minF_t] at n1
    try simp only [minF_f] at n1
    try dsimp only at n1
    refine .mk (SA (some ⟨g, 0, none⟩) m.acts.length ak) rfl hat.1 ?_
    conv => cbv
    refine ⟨fun n2 => ?_, fun n2 => ?_⟩
    · replace n2 := of_decide_eq_true n2
      try simp only [nc] at n2
      try simp only [minF_t] at n2
      try simp only [minF_f] at n2
      try dsimp only at n2
      refine bad rfl rfl rfl ?_ (by decide)
      rw [stepE, if_pos]
      simp [hasC]; omega
    · replace n2 := of_decide_eq_false n2
      try simp only [nc] at n2
      try simp only [minF_t] at n2
      try simp only [minF_f] at n2
      try dsimp only at n2
      have hh : hasC m.acts.length q.ag = true := by simp [hasC]; omega
      have hh' : ¬ hasC m.acts.length q.ag = false := by rw [hh]; simp
      obtain ⟨i, hqi, hi⟩ := hasC_nat hh
      obtain ⟨ps, Mc, r1, r2, r3, r4, r5, r6⟩ := h.row
      obtain ⟨p, hpi, hak⟩ := r5.get (List.getElem?_eq_getElem hi)
      have hga : getA m.acts q.ag = m.acts[i] := getA_eq hqi hi
      have hpl := r5.length
      have hp : CellsAt M g (0 + i * 8) p.cells := CellsAt.chunk (sz := 8) (cs := ps.map AP.cells) (fun x hx => by
        obtain ⟨y, _, rfl⟩ := List.mem_map.1 hx
        rfl) (CellsAt.row r1) (by simp [hpi])
      have hbi := hbig _ (List.getElem_mem hi)
      obtain ⟨x, hx⟩ : ∃ x, m.acts[i] = x := ⟨_, rfl⟩
      rw [hx] at hak hbi hga
      have a1 := hak.after
      have a2 := hak.asked
      refine .mk (SA (some ⟨g, 0, none⟩) m.acts.length ak) rfl hat.1 ?_
      conv => cbv
      refine .mk g 0 i rfl hqi hi ?_
      conv => cbv
      refine .mk p.own.avs rfl rfl (AP.at_own hp) ?_
      conv => cbv
      refine OKS.cut (κ := CP) (fun pc => Ck Mc pc (actC x)) (fun _ => []) (fun pc => [(7, .cells 40 pc.avs)]) (fun _ => M) ?_ fun hj => ?_
      · intro pc hpc
        obtain ⟨r, hr⟩ : ∃ r, ansK q.kind (actC x) q.a q.b = r := ⟨_, rfl⟩
        have hrw : r.1.Wf := hr ▸ wf_ansK _ _ _ _ hq.a hq.b
        have hans : ansM m q = r := by rw [ansM, hga, hr]
        refine ok70.go 5 (by kernel_rfl) ?_
        conv => cbv
        refine OKS.cut (κ := Unit) (fun _ => True) (fun _ => [(9, EA r.2)]) (fun _ => [(8, .cells 43 [EA r.1.n, EA r.1.d])]) (fun _ => M) ?_ fun hj => ?_
        · intro _ _
          refine ok70.go 100 (by kernel_rfl) ?_
          conv => cbv
          refine ⟨fun t1 => ?_, fun t1 => ?_⟩
          · replace t1 := of_decide_eq_true t1
            try simp only [nc] at t1
            try simp only [minF_t] at t1
            try simp only [minF_f] at t1
            try dsimp only at t1
            exact bad rfl rfl rfl (by rw [stepE, if_neg hh', hans, if_pos t1]) t1
          · replace t1 := of_decide_eq_false t1
            try simp only [nc] at t1
            try simp only [minF_t] at t1
            try simp only [minF_f] at t1
            try dsimp only at t1
            refine .mk (SA (hadr ho) m.log.length qk) rfl hat.2 ?_
            conv => cbv
            refine ⟨fun t2 => ?_, fun t2 => ?_⟩
            · replace t2 := of_decide_eq_true t2
              try simp only [nc] at t2
              try simp only [minF_t] at t2
              try simp only [minF_f] at t2
              try dsimp only at t2
              exact bad rfl rfl rfl (by rw [stepE, if_neg hh', hans, if_neg t1, if_pos (by omega)]) (by decide)
            · replace t2 := of_decide_eq_false t2
              try simp only [nc] at t2
              try simp only [minF_t] at t2
              try simp only [minF_f] at t2
              try dsimp only at t2
              have hE : stepE m q = (r.1, 0) := by rw [stepE, if_neg hh', hans, if_neg t1, if_neg (by omega)]
              refine .mk (SA (hadr ho) m.log.length qk) rfl hat.2 ?_
              conv => cbv
              refine .mk trivial fun b3 M3 hn3 hB3 hM3 => ?_
              conv => cbv
              obtain ⟨q', hq'⟩ : ∃ q' : QV, q' = ⟨q.ag, q.kind, q.a, q.b, r.1⟩ := ⟨_, rfl⟩
              have hqw' : q'.Wf := by rw [hq']; exact ⟨hq.ag, hq.kind, hq.a, hq.b, hrw⟩
              have hM3' : M3 = M.set b3 (.row 64 8 q'.cells) := by rw [hq']; exact hM3
              have kp3 : ∀ b, M b ≠ none → M3 b = M b := by rw [hM3']; exact keep_set hn3
              have hlent := hK.lent
              have hown : Own c M3 64 8 (hadr ho) m.log.length qk (m.log.map QV.cells).flatten := by
                refine ⟨?_, ?_⟩
                · have : ∀ l : List QV, ((l.map QV.cells).flatten).length = l.length * 8 := fun l => by
                    induction l with
                    | nil => rfl
                    | cons y l ih => simp [ih]; omega
                  exact this _
                · rcases h.logAt with ⟨e1, e2, e3⟩ | ⟨hb, e1, e2, e3, e4⟩
                  · exact .inl ⟨by rw [e1]; rfl, by rw [e2]; rfl, e3⟩
                  · exact .inr ⟨hb, by rw [e1]; rfl, .inr (by rw [hlent, LM, e1]; simp), by rw [kp3 hb (by rw [e2]; simp)]; exact e2, e3, e4⟩
              refine AppS.own (t := 23) (e := 64) (ti := ti23) (ei := ti64) rfl rfl rfl (by decide) rfl (x := SA (hadr ho) m.log.length qk) (y := SA _ 1 1) rfl hown rfl (CellsAt.new hM3') rfl (ElQ.one M q'.cells q' ⟨rfl, hqw'⟩) (by simp only [maxLen]; omega) (by show (m.log.length + 1) * 64 ≤ _; omega) fun M4 a4 k4 h4 g4 => ?_
              conv => cbv
              have kp4 : ∀ b, M b ≠ none → (∀ hb, ho = some hb → b ≠ hb) → M4 b = M b := fun b hb hne => by
                rw [g4.keep b (by rw [kp3 b hb]; exact hb) ?_, kp3 b hb]
                intro hb' e
                have e : hadr ho = some ⟨hb', 0, none⟩ := e
                cases ho with
                | none => cases e
                | some h0 => cases e; exact hne _ rfl
              have hmbg : mb ≠ g := fun e => by have e1 := h.obj; rw [e, r1] at e1; cases e1
              have hmbh : ∀ hb, ho = some hb → mb ≠ hb := fun hb e e' => by
                rcases h.logAt with ⟨e1, _⟩ | ⟨hb', e1, e2, _⟩
                · rw [e1] at e; cases e
                · rw [e1] at e; cases e
                  have e3 := h.obj; rw [e', e2] at e3; cases e3
              have hgh : ∀ hb, ho = some hb → g ≠ hb := fun hb e e' => by
                rcases h.logAt with ⟨e1, _⟩ | ⟨hb', e1, e2, _⟩
                · rw [e1] at e; cases e
                · rw [e1] at e; cases e
                  rw [e', e2] at r1; cases r1
              have o4 : M4 mb = some (.obj (.cells [SV (some ⟨g, 0, none⟩) m.acts.length ak, SV (hadr ho) m.log.length qk].toArray 113 (0, 0))) := by
                rw [kp4 mb (by rw [h.obj]; simp) hmbh]; exact h.obj
              have w4 : M4 g = some (.row 97 (ak * 8) (List.map AP.cells ps).flatten) := by
                rw [kp4 g (by rw [r1]; simp) hgh]; exact r1
              refine .objM o4 (.inr (by rw [hlent, LM]; simp)) (by show (0 + 1) + 1 ≤ 2; omega) rfl (cs' := [SV (some ⟨g, 0, none⟩) m.acts.length ak, SV a4 (m.log.length + 1) k4]) rfl fun M5 hM5 => ?_
              have w5 : M5 g = some (.row 97 (ak * 8) (List.map AP.cells ps).flatten) := by
                rw [hM5]; simp [Mem.set, hmbg.symm, w4]
              have hp5 : CellsAt M5 g (0 + i * 8) p.cells := CellsAt.chunk (sz := 8) (cs := ps.map AP.cells) (fun x hx => by
                obtain ⟨y, _, rfl⟩ := List.mem_map.1 hx
                rfl) (CellsAt.row w5) (by simp [hpi])
              conv => cbv
              refine .mk (EA p.asked) rfl (AP.at_asked hp5) ?_
              conv => cbv
              refine .i64 (p.asked + 1) rfl (by omega) (by omega) ?_
              conv => cbv
              refine .rowM w5 (.inr (by rw [hlent, LM]; simp)) (by show 0 + i * 8 + 7 + 1 ≤ _; rw [flatA_len]; omega) rfl (cs' := ((ps.set i ⟨p.own, p.told, p.after, p.asked + 1⟩).map AP.cells).flatten) (by show spliceV _ (0 + i * 8 + 7) [EV (p.asked + 1)] = _; rw [Nat.zero_add]; exact splice_asked ps i p _ hpi) fun M6 hM6 => ?_
              conv => cbv
              have keepL : Keeps (LM mb g ho) M M6 := fun b hb hl => by
                simp only [LM, Bool.or_eq_false_iff, beq_eq_false_iff_ne] at hl
                rw [hM6, hM5]
                simp only [Mem.set, if_neg hl.1.1, if_neg hl.1.2]
                exact kp4 b hb fun h0 e e' => hl.2 (by rw [e, e'])
              refine hK.ground rfl keepL ?_
              have hsM : stepM m q = ⟨m.acts.set i x.more, m.log ++ [q']⟩ := by
                rw [stepM, hE, if_pos rfl, hq', hga, hqi, Int.toNat_natCast]
              refine ⟨by rw [hE]; rfl, ?_⟩
              rw [hsM]
              rcases h4.row with ⟨_, ez, _⟩ | ⟨h', e1, e2, e3, e4, e6⟩
              · exact absurd ez (Nat.succ_ne_zero _)
              · have nmb : h' ≠ mb := fun e => by rw [e, o4] at e3; cases e3
                have ng : h' ≠ g := fun e => by rw [e, w4] at e3; cases e3
                have le46 : ∀ N : Mem, N.le M4 → N mb = none → N g = none → N.le M6 := fun N hN n1 n2 => by
                  rw [hM6, hM5]
                  exact le_set_off (le_set_off hN n1) n2
                refine ⟨some h', k4, ⟨?_, ⟨ps.set i ⟨p.own, p.told, p.after, p.asked + 1⟩, Mc, ?_, ?_, r3, r4, ?_, ?_⟩, ?_, .inr ⟨h', rfl, ?_, ?_, e6⟩, ?_⟩, ?_⟩
                · show M6 mb = _
                  rw [hM6]
                  simp only [Mem.set, if_neg hmbg]
                  rw [hM5, set_self, e1]
                  simp [hadr]
                · show M6 g = _
                  rw [hM6, set_self]
                · exact le46 Mc (Mem.le_trans (Mem.le_trans r2 (le_of_keep kp3)) g4.le) r3 r4
                · exact r5.set i ⟨hak.own, hak.told, a1, by show p.asked + 1 = x.asked + 1; omega, hak.ia, by show I64 (x.asked + 1); simp only [I64]; omega⟩
                · have dn6 : ∀ d n, DnsAt B' M d n → DnsAt B' M6 d n := fun d n hd => hd.imp_right fun ⟨b, cap, xs, z1, z2, z3, z4⟩ => by
                    refine ⟨b, cap, xs, z1, z2, ?_, z4⟩
                    have n1 : b ≠ mb := fun e => by have e1 := h.obj; rw [← e, z3] at e1; cases e1
                    have n2 : b ≠ g := fun e => by rw [← e, z3] at r1; cases r1
                    rw [hM6, hM5]
                    simp only [Mem.set, if_neg n1, if_neg n2]
                    rw [kp4 b (by rw [z3]; simp) fun h0 e e' => ?_]
                    · exact z3
                    · rcases h.logAt with ⟨e1, _⟩ | ⟨hb', e1, e2, _⟩
                      · rw [e1] at e; cases e
                      · rw [e1] at e; cases e
                        rw [← e', z3] at e2; cases e2
                  intro x hx
                  rcases List.mem_or_eq_of_mem_set hx with hx | rfl
                  · exact dn6 _ _ (r6 x hx)
                  · exact dn6 _ _ (r6 p (List.mem_of_getElem? hpi))
                · simp only [List.length_set]; exact h.cap
                · show M6 h' = _
                  rw [hM6, hM5]
                  simp only [Mem.set, if_neg nmb, if_neg ng]
                  have e7 : (List.map QV.cells (m.log ++ [q'])).flatten = (List.map QV.cells m.log).flatten ++ q'.cells := by
                    rw [List.map_append, List.flatten_append]; rfl
                  rw [e3, e7]
                  rfl
                · simp only [List.length_append, List.length_cons, List.length_nil]; omega
                · intro y hy
                  rcases List.mem_append.1 hy with hy | hy
                  · exact h.wf y hy
                  · rw [List.mem_singleton] at hy; subst hy; exact hqw'
                · intro h0 e
                  cases e
                  rcases g4.at_ with e | ⟨g', e, _, hg'⟩
                  · left
                    rw [e1] at e
                    cases ho with
                    | none => cases e
                    | some h0 => cases e; rfl
                  · right
                    rw [e1] at e
                    cases e
                    exact hg'
        · refine ok70.go 100 (by kernel_rfl) ?_
          conv => cbv
          refine ⟨fun k1 => ?_, fun k1 => ?_⟩
          · replace k1 := of_decide_eq_true k1
            try simp only [nc] at k1
            try simp only [minF_t] at k1
            try simp only [minF_f] at k1
            try dsimp only at k1
            refine CallS.pure (value_spec (hpc.up r2) q.a q.b hq.a hq.b) rfl (REA r) rfl (by rw [← hr, ansK, if_pos k1]; rfl) ?_
            conv => cbv
            refine hj () trivial _ ?_
            refine ⟨by cbv <;> simp, by cbv <;> simp, by cbv, Mem.le_refl _⟩
          · replace k1 := of_decide_eq_false k1
            try simp only [nc] at k1
            try simp only [minF_t] at k1
            try simp only [minF_f] at k1
            try dsimp only at k1
            refine ⟨fun k2 => ?_, fun k2 => ?_⟩
            · replace k2 := of_decide_eq_true k2
              try simp only [nc] at k2
              try simp only [minF_t] at k2
              try simp only [minF_f] at k2
              try dsimp only at k2
              refine CallS.pure (mark_spec (hpc.up r2) q.a q.b hq.a hq.b) rfl (REA r) rfl (by rw [← hr, ansK, if_neg k1, if_pos k2]; rfl) ?_
              conv => cbv
              refine hj () trivial _ ?_
              refine ⟨by cbv <;> simp, by cbv <;> simp, by cbv, Mem.le_refl _⟩
            · replace k2 := of_decide_eq_false k2
              try simp only [nc] at k2
              try simp only [minF_t] at k2
              try simp only [minF_f] at k2
              try dsimp only at k2
              have hr2 : r = (R.zero, 2) := by rw [← hr, ansK, if_neg k1, if_neg k2]
              refine hj () trivial _ ?_
              refine ⟨by cbv <;> simp [hr2], by cbv <;> simp [hr2, R.zero], by cbv, Mem.le_refl _⟩
      · refine ok70.go 100 (by kernel_rfl) ?_
        conv => cbv
        refine .mk (EA p.after) rfl (AP.at_after hp) ?_
        conv => cbv
        refine ⟨fun f1 => ?_, fun f1 => ?_⟩
        · replace f1 := of_decide_eq_true f1
          try simp only [nc] at f1
          try simp only [minF_t] at f1
          try simp only [minF_f] at f1
          try dsimp only at f1
          refine .mk (EA p.asked) rfl (AP.at_asked hp) ?_
          conv => cbv
          refine .mk (EA p.after) rfl (AP.at_after hp) ?_
          conv => cbv
          refine ⟨fun f2 => ?_, fun f2 => ?_⟩
          · replace f2 := of_decide_eq_true f2
            try simp only [nc] at f2
            try simp only [minF_t] at f2
            try simp only [minF_f] at f2
            try dsimp only at f2
            refine .mk p.told.avs rfl rfl (AP.at_told hp) ?_
            conv => cbv
            refine hj p.told (by rw [actC, if_pos (by omega)]; exact hak.told) _ ?_
            refine ⟨by cbv <;> simp, by cbv <;> simp, by cbv, Mem.le_refl _⟩
          · replace f2 := of_decide_eq_false f2
            try simp only [nc] at f2
            try simp only [minF_t] at f2
            try simp only [minF_f] at f2
            try dsimp only at f2
            refine hj p.own (by rw [actC, if_neg (by omega)]; exact hak.own) _ ?_
            refine ⟨by cbv <;> simp, by cbv <;> simp, by cbv, Mem.le_refl _⟩
        · replace f1 := of_decide_eq_false f1
          try simp only [nc] at f1
          try simp only [minF_t] at f1
          try simp only [minF_f] at f1
          try dsimp only at f1
          refine hj p.own (by rw [actC, if_neg (by omega)]; exact hak.own) _ ?_
          refine ⟨by cbv <;> simp, by cbv <;> simp, by cbv, Mem.le_refl _⟩

end Go.SX
