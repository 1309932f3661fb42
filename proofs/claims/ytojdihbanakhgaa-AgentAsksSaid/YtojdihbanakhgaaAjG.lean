/- Layer 36: what a law writes into a meeting that was returned. -/
import Derived.Test.YtojdihbanakhgaaAhH
import Derived.Test.YtojdihbanakhgaaSxFn2
namespace Go.SX
open Go.Proofs.Try Go.Proofs

def LB (B : Nat) (M0 : Mem) (b : Nat) : Bool := decide (B ≤ b) && (M0 b).isSome

theorem DnsAt.set {B b cap : Nat} {M : Mem} {xs xs' : List Value} {d : Option Addr} {n : Nat} (h : DnsAt B M d n) (hb : M b = some (.row 3 cap xs)) (hl : xs'.length = xs.length) : DnsAt B (M.set b (.row 3 cap xs')) d n :=
  h.imp_right fun ⟨g, cap', ys, e1, e2, e3, e4⟩ => by
    by_cases e : g = b
    · subst e
      rw [hb] at e3
      cases e3
      exact ⟨g, cap, xs', e1, e2, set_self .., by omega⟩
    · exact ⟨g, cap', ys, e1, e2, by simp only [Mem.set, if_neg e]; exact e3, e4⟩

theorem DnsAt.other {B b T cap : Nat} {M : Mem} {xs : List Value} {d : Option Addr} {n : Nat} (h : DnsAt B M d n) (hb : M b = some (.row T cap xs)) (hT : T ≠ 3) (f : Frag) : DnsAt B (M.set b f) d n :=
  h.imp_right fun ⟨g, cap', ys, e1, e2, e3, e4⟩ => by
    have e : g ≠ b := fun e => by
      subst e
      rw [hb] at e3
      cases e3
      exact hT rfl
    exact ⟨g, cap', ys, e1, e2, by simp only [Mem.set, if_neg e]; exact e3, e4⟩

/-- What stays while a meeting's rows are written. -/
structure SpI (B : Nat) (M0 M : Mem) : Prop where
  keep : Keeps (LB B M0) M0 M
  dom : ∀ b, M b ≠ none → M0 b ≠ none

theorem SpI.set {B : Nat} {M0 M : Mem} (h : SpI B M0 M) {b : Nat} (hb : B ≤ b) (hM : M b ≠ none) (f : Frag) : SpI B M0 (M.set b f) := by
  have h0 := h.dom b hM
  refine ⟨fun x hx hl => ?_, fun x hx => ?_⟩
  · have : x ≠ b := fun e => by
      subst e
      have : LB B M0 x = true := by
        simp only [LB, Bool.and_eq_true, decide_eq_true_eq]
        exact ⟨hb, by cases k : M0 x with
          | none => exact absurd k h0
          | some _ => rfl⟩
      rw [this] at hl; cases hl
    simp only [Mem.set, if_neg this]
    exact h.keep x hx hl
  · by_cases e : x = b
    · subst e; exact h0
    · simp only [Mem.set, if_neg e] at hx
      exact h.dom x hx

theorem SpI.lent {B : Nat} {M0 M : Mem} (h : SpI B M0 M) {b : Nat} (hb : B ≤ b) (hM : M b ≠ none) : LB B M0 b = true := by
  have h0 := h.dom b hM
  simp only [LB, Bool.and_eq_true, decide_eq_true_eq]
  exact ⟨hb, by cases k : M0 b with
    | none => exact absurd k h0
    | some _ => rfl⟩

def LogAt (B : Nat) (M : Mem) (qa : Option Addr) (qn qk : Nat) : Prop := qn = 0 ∨ ∃ h cs, qa = some ⟨h, 0, none⟩ ∧ B ≤ h ∧ M h = some (.row 64 (qk * 8) cs) ∧ qn * 8 ≤ cs.length
theorem LogAt.other {B b T cap : Nat} {M : Mem} {qa : Option Addr} {qn qk : Nat} {xs : List Value} (h : LogAt B M qa qn qk) (hb : M b = some (.row T cap xs)) (hT : T ≠ 64) (f : Frag) : LogAt B (M.set b f) qa qn qk :=
  h.imp_right fun ⟨g, cs, e1, e2, e3, e4⟩ => by
    have e : g ≠ b := fun e => by
      subst e
      rw [hb] at e3
      cases e3
      exact hT rfl
    exact ⟨g, cs, e1, e2, by simp only [Mem.set, if_neg e]; exact e3, e4⟩

theorem SpecU.frameV {f : Nat} {args : Array Value} {M0 M : Mem} {L : Nat → Bool} {u : Value} (h : SpecU f args M0 L fun _ _ v => v = u) (hle : M0.le M) : SpecU f args M L fun _ _ v => v = u := by
  intro w hm
  refine (h w (Mem.on_le hle hm)).mono ?_
  rintro v w' ⟨M0', h1, h2, h3, h4, h5⟩
  refine ⟨fun b => if L b then none else M b, ?_, h2, ?_, ?_, h5⟩
  · intro b f hb
    simp only at hb
    cases hl : L b with
    | true => rw [hl] at hb; cases hb
    | false =>
      rw [hl] at hb
      have hb : M b = some f := hb
      rw [h2.block b (mem_lt hm (by rw [hb]; simp)) hl]
      exact hm b f hb
  · intro b _ hl
    simp only [hl]
    rfl
  · intro b hb
    simp only at hb
    left
    intro e
    rw [e] at hb
    simp at hb

theorem FreshMt.cut {B : Nat} {M N : Mem} {aa qa : Option Addr} {an ak qn qk : Nat} (h : FreshMt B M aa an ak qa qn qk) (hN : ∀ b, B ≤ b → N b = M b) : FreshMt B N aa an ak qa qn qk :=
  ⟨h.acts.imp_right fun ⟨g, ps, e1, e2, e3, e4, e5⟩ => ⟨g, ps, e1, e2, by rw [hN g e2]; exact e3, e4, fun p hp => (e5 p hp).imp_right fun ⟨b, cap, xs, f1, f2, f3, f4⟩ => ⟨b, cap, xs, f1, f2, by rw [hN b f2]; exact f3, f4⟩⟩,
    h.log.imp_right fun ⟨g, cs, e1, e2, e3, e4⟩ => ⟨g, cs, e1, e2, by rw [hN g e2]; exact e3, e4⟩⟩

theorem fresh_dn {M : Mem} {aa : Option Addr} {an ak : Nat} {acts : List ActV} (h : RActs M aa an ak acts) (hz : ∀ x ∈ acts, x.own.dens.length ≤ 1000) (g : Nat) (ps : List AP) (ha : aa = some ⟨g, 0, none⟩)
    (hrow : M g = some (.row 97 (ak * 8) (List.map AP.cells ps).flatten)) (hl : ps.length = an) : ∀ p ∈ ps, p.own.dn ≤ 1000000 := fun p hp => by
  obtain ⟨i, hi, rfl⟩ := List.getElem_of_mem hp
  have hn := h.len
  obtain ⟨b, o, q, e1, hq, hak⟩ := h.actor (i := i) (by omega)
  rw [ha] at e1
  cases e1
  have hc : CellsAt M g (0 + i * 8) ps[i].cells := CellsAt.chunk (sz := 8) (cs := ps.map AP.cells) (fun x hx => by
    obtain ⟨y, _, rfl⟩ := List.mem_map.1 hx
    rfl) (CellsAt.row hrow) (by simp [hi])
  have e2 : some (SV q.own.da q.own.dn q.own.dk) = some (SV ps[i].own.da ps[i].own.dn ps[i].own.dk) := hq.2.2.1.symm.trans hc.2.2.1
  have e3 : q.own.dn = ps[i].own.dn := by
    have := Option.some.inj e2
    simp only [Value.slice.injEq] at this
    exact this.2.1
  have e4 := hak.own.dens.len
  have e5 := hz _ (List.getElem_mem (show i < acts.length by omega))
  omega

set_option maxHeartbeats 1000000 in
set_option maxRecDepth 100000 in
theorem spoil_spec {B : Nat} {M : Mem} {aa qa : Option Addr} {an ak qn qk : Nat} (h : FreshMt B M aa an ak qa qn qk) (hs : an ≤ 1000) (hqs : qn ≤ 1000000) (hd : ∀ g ps, aa = some ⟨g, 0, none⟩ → M g = some (.row 97 (ak * 8) (List.map AP.cells ps).flatten) → ps.length = an → ∀ p ∈ ps, p.own.dn ≤ 1000000) :
    SpecU 59 #[MV aa an ak qa qn qk] M (LB B M) fun _ _ v => v = .tuple #[] := by
  refine ok59.specU 200 [MA aa an ak qa qn qk] rfl (by kernel_rfl) fun c K hK => ?_
  conv => cbv
  have hlent := hK.lent
  obtain ⟨ps0, hps0⟩ : ∃ ps0 : List AP, 0 < an → ∃ g, aa = some ⟨g, 0, none⟩ ∧ B ≤ g ∧ M g = some (.row 97 (ak * 8) (List.map AP.cells ps0).flatten) ∧ ps0.length = an ∧ FreshP B M ps0 ∧ ∀ x ∈ ps0, x.own.dn ≤ 1000000 := by
    rcases h.acts with e | ⟨g, ps, e1, e2, e3, e4, e5⟩
    · exact ⟨[], fun e' => by omega⟩
    · exact ⟨ps, fun _ => ⟨g, e1, e2, e3, e4, e5, hd g ps e1 e3 e4⟩⟩
  refine OKS.loopH (fun (p : Nat × Mem × List AP) => p.1 ≤ an ∧ SpI B M p.2.1 ∧ LogAt B p.2.1 qa qn qk ∧ (0 < an → ∃ g, aa = some ⟨g, 0, none⟩ ∧ B ≤ g ∧ p.2.1 g = some (.row 97 (ak * 8) (List.map AP.cells p.2.2).flatten) ∧ p.2.2.length = an ∧ FreshP B p.2.1 p.2.2 ∧ ∀ x ∈ p.2.2, x.own.dn ≤ 1000000))
    (fun p => [(2, EA p.1)]) (fun _ => []) (fun p => p.2.1) (fun p => an - p.1) (0, M, ps0) ⟨by simp, ⟨fun _ _ _ => rfl, fun _ h => h⟩, h.log, hps0⟩ ?_ ?_
  · refine ⟨by cbv <;> simp, by cbv <;> simp, by cbv, Mem.le_refl _⟩
  · intro ⟨i, Mi, ps⟩ ⟨hi1, hsp, hlog, hact⟩ ih
    simp only at hi1 hsp hlog hact
    refine ok59.go 100 (by kernel_rfl) ?_
    conv => cbv
    refine ⟨fun l1 => ?_, fun l1 => ?_⟩
    · replace l1 := of_decide_eq_true l1
      try simp only [nc] at l1
      try simp only [minF_t] at l1
      try simp only [minF_f] at l1
      try dsimp only at l1
      obtain ⟨g, rfl, gB, hrow, hpl, hfr, hdn⟩ := hact (by omega)
      have hip : i < ps.length := by omega
      obtain ⟨p, hp⟩ : ∃ p, ps[i] = p := ⟨_, rfl⟩
      have hpi : ps[i]? = some p := by rw [List.getElem?_eq_getElem hip, hp]
      have hpm : p ∈ ps := hp ▸ List.getElem_mem hip
      have hdnp := hdn p hpm
      have hat : ∀ Mj : Mem, Mj g = some (.row 97 (ak * 8) (List.map AP.cells ps).flatten) → CellsAt Mj g (0 + i * 8) p.cells := fun Mj hj => CellsAt.chunk (sz := 8) (cs := ps.map AP.cells) (fun x hx => by
        obtain ⟨y, _, rfl⟩ := List.mem_map.1 hx
        rfl) (CellsAt.row hj) (by simp [hpi])
      refine OKS.loopH (fun (q : Nat × Mem) => q.1 ≤ p.own.dn ∧ SpI B M q.2 ∧ LogAt B q.2 qa qn qk ∧ q.2 g = some (.row 97 (ak * 8) (List.map AP.cells ps).flatten) ∧ FreshP B q.2 ps)
        (fun q => [(3, EA q.1)]) (fun _ => []) (fun q => q.2) (fun q => p.own.dn - q.1) (0, Mi) ⟨by simp, hsp, hlog, hrow, hfr⟩ ?_ ?_
      · refine ⟨by cbv <;> simp, by cbv <;> simp, by cbv, Mem.le_refl _⟩
      · intro ⟨j, Mj⟩ ⟨hj1, hspj, hlogj, hrowj, hfrj⟩ ih2
        simp only at hj1 hspj hlogj hrowj hfrj
        have hc := hat Mj hrowj
        refine ok59.go 100 (by kernel_rfl) ?_
        conv => cbv
        refine .mk g 0 i rfl rfl (by show i < an; omega) ?_
        conv => cbv
        refine .mk (SA p.own.da p.own.dn p.own.dk) rfl hc.2.2.1 ?_
        conv => cbv
        refine ⟨fun l2 => ?_, fun l2 => ?_⟩
        · replace l2 := of_decide_eq_true l2
          try simp only [nc] at l2
          try simp only [minF_t] at l2
          try simp only [minF_f] at l2
          try dsimp only at l2
          have l2' : j < p.own.dn := by omega
          rcases hfrj p hpm with e | ⟨b, cap, xs, e1, e2, e3, e4⟩
          · omega
          refine .mk g 0 i rfl rfl (by show i < an; omega) ?_
          conv => cbv
          refine .mk (SA p.own.da p.own.dn p.own.dk) rfl hc.2.2.1 ?_
          conv => cbv
          refine .mk b 0 j e1 rfl (by show j < p.own.dn; omega) ?_
          conv => cbv
          refine .rowM (cs' := spliceV xs (0 + j * 1) [EV 99]) e3 (.inr (by rw [hlent]; exact hspj.lent e2 (by rw [e3]; simp))) (by show 0 + j * 1 + 1 ≤ _; omega) rfl rfl fun M3 hM3 => ?_
          conv => cbv
          refine .i64 ((j + 1 : Nat) : Int) (by show (j : Int) + 1 = _; omega) (by omega) (by omega) ?_
          conv => cbv
          have hlen : (spliceV xs (0 + j * 1) [EV 99]).length = xs.length := length_spliceV (by show 0 + j * 1 + 1 ≤ _; omega)
          refine ih2 (j + 1, M3) ⟨by simp only; omega, ?_, ?_, ?_, ?_⟩ (by simp only; omega) _ ?_
          · show SpI B M M3
            rw [hM3]
            exact hspj.set e2 (by rw [e3]; simp) _
          · show LogAt B M3 qa qn qk
            rw [hM3]
            exact hlogj.other e3 (by decide) _
          · show M3 g = _
            rw [hM3]
            have : g ≠ b := fun e => by rw [e, e3] at hrowj; cases hrowj
            simp only [Mem.set, if_neg this]
            exact hrowj
          · show FreshP B M3 ps
            rw [hM3]
            exact fun x hx => (hfrj x hx).set e3 hlen
          · refine ⟨by cbv <;> simp, by cbv <;> simp, by cbv, Mem.le_refl _⟩
        · replace l2 := of_decide_eq_false l2
          try simp only [nc] at l2
          try simp only [minF_t] at l2
          try simp only [minF_f] at l2
          try dsimp only at l2
          refine .mk g 0 i rfl rfl (by show i < an; omega) ?_
          conv => cbv
          refine .rowM hrowj (.inr (by rw [hlent]; exact hspj.lent gB (by rw [hrowj]; simp))) (by show 0 + i * 8 + 7 + 1 ≤ _; rw [flatA_len]; omega) rfl (cs' := ((ps.set i ⟨p.own, p.told, p.after, 99⟩).map AP.cells).flatten) (by show spliceV _ (0 + i * 8 + 7) [EV 99] = _; rw [Nat.zero_add]; exact splice_asked ps i p _ hpi) fun M3 hM3 => ?_
          conv => cbv
          refine .i64 ((i + 1 : Nat) : Int) (by show (i : Int) + 1 = _; omega) (by omega) (by omega) ?_
          conv => cbv
          have hown : ∀ x ∈ ps.set i ⟨p.own, p.told, p.after, 99⟩, ∃ y ∈ ps, x.own = y.own := fun x hx => by
            rcases List.mem_or_eq_of_mem_set hx with hx | rfl
            · exact ⟨x, hx, rfl⟩
            · exact ⟨p, hpm, rfl⟩
          refine ih (i + 1, M3, ps.set i ⟨p.own, p.told, p.after, 99⟩) ⟨by simp only; omega, ?_, ?_, fun _ => ⟨g, rfl, gB, ?_, by simp only [List.length_set]; exact hpl, ?_, ?_⟩⟩ (by simp only; omega) _ ?_
          · show SpI B M M3
            rw [hM3]
            exact hspj.set gB (by rw [hrowj]; simp) _
          · show LogAt B M3 qa qn qk
            rw [hM3]
            exact hlogj.other hrowj (by decide) _
          · show M3 g = _
            rw [hM3, set_self]
          · intro x hx
            obtain ⟨y, hy, e⟩ := hown x hx
            show DnsAt B M3 x.own.da x.own.dn
            rw [e, hM3]
            exact (hfrj y hy).other hrowj (by decide) _
          · intro x hx
            obtain ⟨y, hy, e⟩ := hown x hx
            rw [e]
            exact hdn y hy
          · refine ⟨by cbv <;> simp, by cbv <;> simp, by cbv, Mem.le_refl _⟩
    · replace l1 := of_decide_eq_false l1
      try simp only [nc] at l1
      try simp only [minF_t] at l1
      try simp only [minF_f] at l1
      try dsimp only at l1
      refine OKS.loopH (fun (q : Nat × Mem) => q.1 ≤ qn ∧ SpI B M q.2 ∧ LogAt B q.2 qa qn qk)
        (fun q => [(4, EA q.1)]) (fun _ => []) (fun q => q.2) (fun q => qn - q.1) (0, Mi) ⟨by simp, hsp, hlog⟩ ?_ ?_
      · refine ⟨by cbv <;> simp, by cbv <;> simp, by cbv, Mem.le_refl _⟩
      · intro ⟨j, Mj⟩ ⟨hj1, hspj, hlogj⟩ ih2
        simp only at hj1 hspj hlogj
        refine ok59.go 100 (by kernel_rfl) ?_
        conv => cbv
        refine ⟨fun l2 => ?_, fun l2 => ?_⟩
        · replace l2 := of_decide_eq_true l2
          try simp only [nc] at l2
          try simp only [minF_t] at l2
          try simp only [minF_f] at l2
          try dsimp only at l2
          rcases hlogj with e | ⟨b, cs, rfl, e2, e3, e4⟩
          · omega
          refine .mk b 0 j rfl rfl (by show j < qn; omega) ?_
          conv => cbv
          refine .rowM (cs' := spliceV cs (0 + j * 8) [EV 99]) e3 (.inr (by rw [hlent]; exact hspj.lent e2 (by rw [e3]; simp))) (by show 0 + j * 8 + 1 ≤ _; omega) rfl rfl fun M3 hM3 => ?_
          conv => cbv
          refine .i64 ((j + 1 : Nat) : Int) (by show (j : Int) + 1 = _; omega) (by omega) (by omega) ?_
          conv => cbv
          have hlen : (spliceV cs (0 + j * 8) [EV 99]).length = cs.length := length_spliceV (by show 0 + j * 8 + 1 ≤ _; omega)
          refine ih2 (j + 1, M3) ⟨by simp only; omega, ?_, .inr ⟨b, spliceV cs (0 + j * 8) [EV 99], rfl, e2, ?_, by rw [hlen]; exact e4⟩⟩ (by simp only; omega) _ ?_
          · show SpI B M M3
            rw [hM3]
            exact hspj.set e2 (by rw [e3]; simp) _
          · show M3 b = _
            rw [hM3, set_self]
          · refine ⟨by cbv <;> simp, by cbv <;> simp, by cbv, Mem.le_refl _⟩
        · replace l2 := of_decide_eq_false l2
          try simp only [nc] at l2
          try simp only [minF_t] at l2
          try simp only [minF_f] at l2
          try dsimp only at l2
          exact hK.ground rfl hspj.keep rfl

end Go.SX
