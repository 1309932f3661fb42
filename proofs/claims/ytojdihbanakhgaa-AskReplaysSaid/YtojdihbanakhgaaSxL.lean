/- How a function's contract is proved and used. -/
import Derived.Test.YtojdihbanakhgaaSxK
namespace Go.SX
open Go.RowKit (Below)

/-- Memory M' has all that M has, as it was, but for the blocks L. -/
def Keeps (L : Nat → Bool) (M M' : Mem) : Prop := ∀ b, M b ≠ none → L b = false → M' b = M b
def noL : Nat → Bool := fun _ => false

theorem Keeps.refl (L : Nat → Bool) (M : Mem) : Keeps L M M := fun _ _ _ => rfl
theorem Keeps.trans {L : Nat → Bool} {M N O : Mem} (h : Keeps L M N) (k : Keeps L N O) : Keeps L M O := fun b hb hl => by
  have e := h b hb hl
  rw [← e] at hb ⊢
  exact k b hb hl
theorem Keeps.le {M M' : Mem} (h : Keeps noL M M') : M.le M' := fun b f hb => ⟨f, (h b (by rw [hb]; simp) rfl).trans hb, f.le_refl⟩
theorem Keeps.any {M M' : Mem} (h : Keeps noL M M') (L : Nat → Bool) : Keeps L M M' := fun b hb _ => h b hb rfl
theorem Keeps.set {L : Nat → Bool} {M M' : Mem} (h : Keeps L M M') {b : Nat} {f : Frag} (hb : M b = none ∨ L b = true) : Keeps L M (M'.set b f) := fun i hi hl => by
  have : i ≠ b := fun e => by subst e; rcases hb with hb | hb
                              · exact hi hb
                              · rw [hb] at hl; cases hl
  simp [Mem.set, this, h i hi hl]

/-- Nothing that was there has changed, but for the blocks L. -/
structure BelowX (L : Nat → Bool) (w w' : World) : Prop where
  os : w'.os = w.os
  tape : w'.tape = w.tape
  output : w'.output = w.output
  froz : ∀ a, w'.frozen? a = w.frozen? a
  size : w.heap.size ≤ w'.heap.size
  block : ∀ b, b < w.heap.size → L b = false → w'.heap[b]? = w.heap[b]?

/-- What a call of f comes to, whatever else memory holds: nothing that was there is touched but for the blocks L. -/
def SpecU (f : Nat) (args : Array Value) (M : Mem) (L : Nat → Bool) (Post : Nat → Mem → Value → Prop) : Prop :=
  ∀ w, M.on w → ResV PR (fun v w' => ∃ M', M'.on w' ∧ BelowX L w w' ∧ Keeps L M M' ∧ (∀ b, M' b ≠ none → M b ≠ none ∨ w.heap.size ≤ b) ∧ Post w.heap.size M' v) ((callFunc f args).run PR w)

def Spec (f : Nat) (args : Array Value) (M : Mem) (Post : Nat → Mem → Value → Prop) : Prop := SpecU f args M noL Post

/-- .. and it only reckons. -/
def Pure1 (f : Nat) (args : Array Value) (M : Mem) (v : Value) : Prop := Spec f args M fun _ M' v' => M' = M ∧ v' = v

theorem SpecU.mono {f : Nat} {args : Array Value} {M : Mem} {L : Nat → Bool} {P Q : Nat → Mem → Value → Prop} (h : SpecU f args M L P) (hq : ∀ B M' v, Keeps L M M' → P B M' v → Q B M' v) : SpecU f args M L Q := fun w hm =>
  (h w hm).mono fun _ _ ⟨M', h3, h4, h5, h6, h7⟩ => ⟨M', h3, h4, h5, h6, hq _ _ _ h5 h7⟩

theorem Spec.mono {f : Nat} {args : Array Value} {M : Mem} {P Q : Nat → Mem → Value → Prop} (h : Spec f args M P) (hq : ∀ B M' v, Keeps noL M M' → P B M' v → Q B M' v) : Spec f args M Q := SpecU.mono h hq

section
variable {c : Ct} {f : Nat} {K : S → AV → Prop} {s : S}

/-- What the end of a call owes. -/
structure KOk (c : Ct) (M : Mem) (L : Nat → Bool) (Post : Nat → Mem → Value → Prop) (K : S → AV → Prop) : Prop where
  M0 : c.M0 = M
  lent : c.lent = L
  lt : ∀ b, M b ≠ none → b < c.B0
  fin : ∀ s r, (∀ ρ a w, s.WF → Gam c ρ s a w → ∃ M' : Mem, M'.on w ∧ Keeps L M M' ∧ (∀ b, M' b ≠ none → M b ≠ none ∨ c.B0 ≤ b) ∧ Post c.B0 M' (r.den ρ)) → K s r

theorem KOk.ground {M : Mem} {L : Nat → Bool} {Post : Nat → Mem → Value → Prop} (h : KOk c M L Post K) {r : AV} (hr : r.ground = true) (hk : Keeps L M s.M) (hp : Post c.B0 s.M r.val) : K s r :=
  h.fin s r fun ρ _ _ _ hg => ⟨s.M, hg.mem, hk, fun b hb => by have := hg.new b hb; rwa [h.M0] at this, by rw [AV.ground_den hr]; exact hp⟩

theorem KOk.pure {M : Mem} {v : Value} (h : KOk c M noL (fun _ M' v' => M' = M ∧ v' = v) K) {r : AV} (hr : r.ground = true) (hm : M.le s.M) (hp : r.val = v) : K s r :=
  h.fin s r fun ρ _ _ _ hg => ⟨M, Mem.on_le hm hg.mem, Keeps.refl _ _, fun _ hb => .inl hb, rfl, by rw [AV.ground_den hr]; exact hp⟩

/-- The state in which a function's body begins. -/
def entry (ps : List AV) (n : Nat) (M : Mem) : S := ⟨ps ++ List.replicate (n - ps.length) uav, List.replicate n .none, M⟩

theorem entry_gam {w : World} {ps : List AV} {n : Nat} {M : Mem} {L : Nat → Bool} (hps : AV.groundL ps = true) (hn : ps.length ≤ n) (hm : M.on w) :
    Gam ⟨w, M, L⟩ (fun _ => 0) (entry ps n M) { tmps := AV.vals ps ++ Array.replicate (n - (AV.vals ps).size) undef, defers := [] } w ∧ (entry ps n M).WF := by
  have hsz : (AV.vals ps).size = ps.length := by simp [AV.vals, denL_length]
  have hob : ∀ i, (entry ps n M).ob i = .none := fun i => by
    simp only [S.ob, entry, List.getD_eq_getElem?_getD, List.getElem?_replicate]
    split <;> rfl
  simp only [AV.groundL, Bool.and_eq_true] at hps
  have hget : ∀ t, (entry ps n M).get t = ps.getD t uav := fun t => by
    simp only [S.get, entry, List.getD_eq_getElem?_getD]
    by_cases ht : t < ps.length
    · rw [List.getElem?_append_left ht, List.getElem?_eq_getElem ht]; rfl
    · rw [List.getElem?_append_right (by omega), List.getElem?_eq_none (l := ps) (by omega), List.getElem?_replicate]
      split
      · rfl
      · rfl
  refine ⟨{ tsz := ?_, tmp := fun t => ?_, defers := rfl, mem := hm, ob := fun i T l hi => ?_, inj := fun i j hi => ?_, fr := ⟨rfl, rfl, rfl, fun _ => rfl, Nat.le_refl _, fun _ _ _ => rfl⟩, new := fun b hb => .inl hb }, { tmps := fun t => ?_, objs := fun i T l hi => ?_, len := ?_ }⟩
  · simp [entry, hsz]
  · rw [hget]
    by_cases ht : t < ps.length
    · right
      have h1 : (AV.vals ps ++ Array.replicate (n - (AV.vals ps).size) undef).getD t undef = (AV.vals ps).getD t undef := by
        simp only [Array.getD_eq_getD_getElem?]
        rw [Array.getElem?_append_left (by rw [hsz]; exact ht)]
      rw [h1]
      simp only [AV.vals, Array.getD_eq_getD_getElem?, List.getElem?_toArray, denL_get, List.getD_eq_getElem?_getD, List.getElem?_eq_getElem ht, Option.map_some, Option.getD_some]
    · have h1 : (AV.vals ps ++ Array.replicate (n - (AV.vals ps).size) undef).getD t undef = undef := by
        simp only [Array.getD_eq_getD_getElem?]
        rw [Array.getElem?_append_right (by rw [hsz]; omega), Array.getElem?_replicate]
        split <;> rfl
      rw [h1]
      right
      rw [List.getD_eq_getElem?_getD, List.getElem?_eq_none (by omega)]
      rfl
  · rw [hob] at hi; cases hi
  · simp [S.live, hob, Ob.live] at hi
  · rw [hget]
    by_cases ht : t < ps.length
    · have := hps.2
      rw [AV.wfL_eq, List.all_eq_true] at this
      rw [List.getD_eq_getElem?_getD, List.getElem?_eq_getElem ht]
      exact AV.wf_mono (fun i hi => by cases hi) _ (this _ (List.getElem_mem ht))
    · rw [List.getD_eq_getElem?_getD, List.getElem?_eq_none (by omega)]
      exact AV.ground_wf uav_ground _
  · rw [hob] at hi; cases hi
  · simp [entry]; omega

theorem mem_lt {M : Mem} {w : World} (h : M.on w) {b : Nat} (hb : M b ≠ none) : b < w.heap.size := by
  cases hm : M b with
  | none => exact absurd hm hb
  | some f =>
    have := h b f hm
    rcases Nat.lt_or_ge b w.heap.size with h' | h'
    · exact h'
    · rw [Array.getElem?_eq_none h'] at this
      cases f with
      | obj o => simp [Frag.on] at this
      | row T N c => obtain ⟨r, h1, _⟩ := this; cases h1

/-- **A function's contract**, by the executor. -/
theorem SpecU.of_run {fn : Func} {q : Unit → Q} {rs : List ResultVar} (n : Nat) (hf : PR.funcs[f]? = some fn) (hcall : ∀ args w, (callFunc f args).run PR w = .ok (.enter f args) w) (hb : fn.body = some (q ()).code)
    (hres : fn.results.toList = rs) (hod : (q ()).ok = true) {ps : List AV} {M : Mem} {L : Nat → Bool} {Post : Nat → Mem → Value → Prop} (hps : AV.groundL ps = true) (hn : ps.length ≤ fn.ntmps)
    (h : ∀ (c : Ct) (K : S → AV → Prop), KOk c M L Post K → run rs f c K n [.code q] (entry ps fn.ntmps M)) : SpecU f (AV.vals ps) M L Post := by
  intro w hm
  rw [hcall]
  obtain ⟨hg, hw⟩ := entry_gam (n := fn.ntmps) (L := L) hps hn hm
  have hrun := h ⟨w, M, L⟩ (fun s r => ∀ ρ a w', s.WF → Gam ⟨w, M, L⟩ ρ s a w' → ∃ M' : Mem, M'.on w' ∧ Keeps L M M' ∧ (∀ b, M' b ≠ none → M b ≠ none ∨ w.heap.size ≤ b) ∧ Post w.heap.size M' (r.den ρ))
    ⟨rfl, rfl, fun b hb => mem_lt hm hb, fun s r h => h⟩
  have hok := run_sound hf hres n _ _ (all_code hod (by rfl)) hrun
  intro cs
  let b : Frame := { (default : Frame) with fn := f, kind := .normal }
  have henter : Frame.enter PR f (AV.vals ps) .normal = b.at { tmps := AV.vals ps ++ Array.replicate (fn.ntmps - (AV.vals ps).size) undef, defers := [] } [(It.code q).item] := by
    simp [It.item, Frame.enter, Frame.at, hf, hb, b]
  obtain ⟨v, w', fr, ⟨ρ, s, r, a, hw', hg', hv, _, hk⟩, h2, h3, h4⟩ := hok.ok b cs _ _ _ rfl rfl hw hg
  obtain ⟨M', k1, k2, k3, k4⟩ := hk ρ a w' hw' hg'
  refine ⟨.returned v, w', fr, ⟨v, rfl, M', k1, ⟨hg'.fr.os, hg'.fr.tape, hg'.fr.output, hg'.fr.froz, hg'.fr.size, hg'.fr.block⟩, k2, k3, by rw [hv]; exact k4⟩, ?_, h3, h4⟩
  rw [henter]; exact h2

/-! ### A call by its contract -/

theorem CallS.specU {up : Bool} {g : Nat} {args : List AV} {vs : Array Value} {M : Mem} {L : Nat → Bool} {p : Mem → AV → Prop} {Post : Nat → Mem → Value → Prop} (h : SpecU g vs M L Post) (ha : AV.vals args = vs)
    (hL : ∀ b, L b = true → M b ≠ none ∧ (c.B0 ≤ b ∨ c.lent b = true)) (hup : up = true ∨ ∀ b, L b = false)
    (hk : ∀ B M' v, c.B0 ≤ B → (∀ b, M b ≠ none → b < B) → Keeps L M M' → (∀ b, M' b ≠ none → M b ≠ none ∨ B ≤ b) → Post B M' v → ∃ r : AV, r.ground = true ∧ r.val = v ∧ p M' r) : CallS c up g args M p := by
  refine ⟨fun w hm hB => ?_⟩
  rw [ha]
  refine (h w hm).mono fun v w' ⟨M', h3, h4, h5, h6, h7⟩ => ?_
  obtain ⟨r, h1, h2, hp⟩ := hk _ _ _ hB (fun b hb => mem_lt hm hb) h5 h6 h7
  refine ⟨M', r, h2.symm, h1, ⟨fun hu => ?_, h3, h4.os, h4.tape, h4.output, h4.froz, h4.size, fun b hb ho => h4.block b hb ?_, h6⟩, hp⟩
  · rcases hup with hup | hup
    · rw [hup] at hu; cases hu
    · exact fun b f hb => ⟨f, (h5 b (by rw [hb]; simp) (hup b)).trans hb, f.le_refl⟩
  · cases hl : L b with
    | false => rfl
    | true =>
      obtain ⟨k1, k2⟩ := hL b hl
      rcases ho with ho | ho
      · exact absurd ho k1
      · obtain ⟨o1, o2⟩ := ho
        rcases k2 with k2 | k2
        · omega
        · rw [k2] at o2; cases o2

theorem CallS.spec {up : Bool} {g : Nat} {args : List AV} {vs : Array Value} {M : Mem} {p : Mem → AV → Prop} {Post : Nat → Mem → Value → Prop} (h : Spec g vs M Post) (ha : AV.vals args = vs)
    (hk : ∀ B M' v, c.B0 ≤ B → (∀ b, M b ≠ none → b < B) → Keeps noL M M' → (∀ b, M' b ≠ none → M b ≠ none ∨ B ≤ b) → Post B M' v → ∃ r : AV, r.ground = true ∧ r.val = v ∧ p M' r) : CallS c up g args M p :=
  CallS.specU h ha (fun b hb => by cases hb) (.inr fun _ => rfl) hk

theorem CallS.pure {up : Bool} {g : Nat} {args : List AV} {vs : Array Value} {M : Mem} {p : Mem → AV → Prop} {v : Value} (h : Pure1 g vs M v) (ha : AV.vals args = vs) (r : AV) (hr : r.ground = true) (hv : r.val = v) (hk : p M r) : CallS c up g args M p :=
  CallS.spec h ha fun _ _ _ _ _ _ _ ⟨h1, h2⟩ => by subst h1; subst h2; exact ⟨r, hr, hv, hk⟩

/-! ### Weaker states -/

/-- Two values that are the same (kept from being looked into). -/
structure EqU {α : Type} (a b : Unit → α) : Prop where
  eq : a () = b ()

@[simp] theorem EqU.rfl_iff {α : Type} {a : Unit → α} : EqU a a ↔ True := ⟨fun _ => trivial, fun _ => ⟨rfl⟩⟩
theorem EqU.iff {α : Type} {a b : Unit → α} : EqU a b ↔ a () = b () := ⟨fun h => h.eq, fun h => ⟨h⟩⟩

mutual
/-- x says at least what y says. -/
def leA : AV → AV → Prop
  | _, .any => True
  | .sym k n, .sym k' n' => k = k' ∧ EqU n n'
  | .int k n, .sym k' n' => k = k' ∧ EqU (fun _ => n) n'
  | .int k n, .int k' n' => k = k' ∧ n = n'
  | .sb b, .sb b' => EqU b b'
  | .tt, .sb b' => EqU (fun _ => true) b'
  | .ff, .sb b' => EqU (fun _ => false) b'
  | .tt, .tt | .ff, .ff | .nils, .nils => True
  | .ptr i o, .ptr i' o' => i = i' ∧ o = o'
  | .el b o, .el b' o' => EqU b b' ∧ EqU o o'
  | .slice a n c, .slice a' n' c' => EqU a a' ∧ EqU n n' ∧ EqU c c'
  | .nils, .slice a n c => EqU (fun _ => none) a ∧ EqU (fun _ => 0) n ∧ EqU (fun _ => 0) c
  | .v x, .v y => EqU x y
  | .tup l, .tup m | .agg l, .agg m => leSL l m
  | .clo f a b, .clo g a' b' => f = g ∧ leSL a a' ∧ leSL b b'
  | _, _ => False
/-- The same of lists, nothing unknown. -/
def leSL : List AV → List AV → Prop
  | [], [] => True
  | x :: l, y :: m => y.known = true ∧ leA x y ∧ leSL l m
  | _, _ => False
end

mutual
theorem leA_den {ρ : Nat → Nat} : ∀ {x y : AV}, leA x y → y.known = true → x.known = true ∧ x.den ρ = y.den ρ
  | x, .any, _, h => by simp [AV.known] at h
  | .sym k n, .sym k' n', h, _ => by simp only [leA] at h; exact ⟨rfl, by simp [AV.den, h.1, h.2.eq]⟩
  | .int k n, .sym k' n', h, _ => by simp only [leA] at h; exact ⟨rfl, by simp [AV.den, h.1, ← h.2.eq]⟩
  | .int k n, .int k' n', h, _ => by simp only [leA] at h; exact ⟨rfl, by simp [AV.den, h.1, h.2]⟩
  | .sb b, .sb b', h, _ => by simp only [leA] at h; exact ⟨rfl, by simp [AV.den, h.eq]⟩
  | .tt, .sb b', h, _ => by simp only [leA] at h; exact ⟨rfl, by simp [AV.den, ← h.eq]⟩
  | .ff, .sb b', h, _ => by simp only [leA] at h; exact ⟨rfl, by simp [AV.den, ← h.eq]⟩
  | .tt, .tt, _, _ => ⟨rfl, rfl⟩
  | .ff, .ff, _, _ => ⟨rfl, rfl⟩
  | .nils, .nils, _, _ => ⟨rfl, rfl⟩
  | .ptr i o, .ptr i' o', h, _ => by simp only [leA] at h; exact ⟨rfl, by simp [AV.den, h.1, h.2]⟩
  | .el b o, .el b' o', h, _ => by simp only [leA] at h; exact ⟨rfl, by simp [AV.den, h.1.eq, h.2.eq]⟩
  | .slice a n c, .slice a' n' c', h, _ => by simp only [leA] at h; exact ⟨rfl, by simp [AV.den, h.1.eq, h.2.1.eq, h.2.2.eq]⟩
  | .nils, .slice a n c, h, _ => by simp only [leA] at h; exact ⟨rfl, by simp [AV.den, ← h.1.eq, ← h.2.1.eq, ← h.2.2.eq]⟩
  | .v x, .v y, h, _ => by simp only [leA] at h; exact ⟨rfl, by simp [AV.den, h.eq]⟩
  | .tup l, .tup m, h, _ => by simp only [leA] at h; exact ⟨rfl, by simp [AV.den, leSL_den h]⟩
  | .agg l, .agg m, h, _ => by simp only [leA] at h; exact ⟨rfl, by simp [AV.den, leSL_den h]⟩
  | .clo f a b, .clo g a' b', h, _ => by simp only [leA] at h; exact ⟨rfl, by simp [AV.den, h.1, leSL_den h.2.1, leSL_den h.2.2]⟩
theorem leSL_den {ρ : Nat → Nat} : ∀ {l m : List AV}, leSL l m → AV.denL ρ l = AV.denL ρ m
  | [], [], _ => rfl
  | x :: l, y :: m, h => by simp only [leSL] at h; rw [AV.denL, AV.denL, (leA_den h.2.1 h.1).2, leSL_den h.2.2]
  | [], _ :: _, h => by simp only [leSL] at h
  | _ :: _, [], h => by simp only [leSL] at h
end

theorem leA_Den {ρ : Nat → Nat} {x y : AV} {v : Value} (h : leA x y) (hd : Den ρ x v) : Den ρ y v := by
  by_cases hy : y.known = true
  · obtain ⟨h1, h2⟩ := leA_den (ρ := ρ) h hy
    rcases hd with hd | hd
    · subst hd; simp [AV.known] at h1
    · exact .inr (hd.trans h2)
  · left; cases y <;> simp [AV.known] at hy; rfl

def leT : List AV → List AV → Prop
  | [], [] => True
  | x :: l, y :: m => leA x y ∧ leT l m
  | _, _ => False

theorem leT_get : ∀ {l m : List AV}, leT l m → ∀ t, leA (l.getD t uav) (m.getD t uav)
  | [], [], _, t => by simp [uav, leA]
  | x :: l, y :: m, h, 0 => by simpa using h.1
  | x :: l, y :: m, h, t + 1 => by simpa using leT_get h.2 t
  | [], _ :: _, h, _ => h.elim
  | _ :: _, [], h, _ => h.elim

theorem leT_len : ∀ {l m : List AV}, leT l m → l.length = m.length
  | [], [], _ => rfl
  | _ :: _, _ :: _, h => by simp [leT_len h.2]
  | [], _ :: _, h => h.elim
  | _ :: _, [], h => h.elim

theorem leT_DenL {ρ : Nat → Nat} : ∀ {l m : List AV} {k : List Value}, leT l m → DenL ρ l k → DenL ρ m k
  | [], [], [], _, _ => trivial
  | _ :: _, _ :: _, _ :: _, h, hd => ⟨leA_Den h.1 hd.1, leT_DenL h.2 hd.2⟩
  | [], _ :: _, _, h, _ => h.elim
  | _ :: _, [], _, h, _ => h.elim
  | [], [], _ :: _, _, hd => hd.elim
  | _ :: _, _ :: _, [], _, hd => hd.elim

def leOb : Ob → Ob → Prop
  | _, .none => True
  | .cells T l, .cells T' l' => T = T' ∧ leT l l'
  | _, _ => False

def leO : List Ob → List Ob → Prop
  | [], [] => True
  | x :: l, y :: m => leOb x y ∧ leO l m
  | _, _ => False

theorem leO_get : ∀ {l m : List Ob}, leO l m → ∀ t, leOb (l.getD t .none) (m.getD t .none)
  | [], [], _, t => by simp [leOb]
  | x :: l, y :: m, h, 0 => by simpa using h.1
  | x :: l, y :: m, h, t + 1 => by simpa using leO_get h.2 t
  | [], _ :: _, h, _ => h.elim
  | _ :: _, [], h, _ => h.elim

theorem leO_len : ∀ {l m : List Ob}, leO l m → l.length = m.length
  | [], [], _ => rfl
  | _ :: _, _ :: _, h => by simp [leO_len h.2]
  | [], _ :: _, h => h.elim
  | _ :: _, [], h => h.elim

/-- Is each pointer's variable there? -/
def wfOb (p : Nat → Bool) : List Ob → Bool
  | [] => true
  | .none :: l => wfOb p l
  | .cells _ c :: l => AV.wfL p c && wfOb p l

def wfS (s : S) : Bool := AV.wfL s.live s.tmps && wfOb s.live s.objs

theorem wfOb_get (p : Nat → Bool) : ∀ {l : List Ob}, wfOb p l = true → ∀ i T c, l.getD i .none = .cells T c → AV.wfL p c = true
  | [], _, i, T, c, h => by simp at h
  | .none :: l, hw, 0, T, c, h => by simp at h
  | .cells T' c' :: l, hw, 0, T, c, h => by
    simp at h; obtain ⟨rfl, rfl⟩ := h
    simp only [wfOb, Bool.and_eq_true] at hw; exact hw.1
  | .none :: l, hw, i + 1, T, c, h => wfOb_get p (l := l) (by simpa [wfOb] using hw) i T c (by simpa using h)
  | .cells T' c' :: l, hw, i + 1, T, c, h => wfOb_get p (l := l) (by simp only [wfOb, Bool.and_eq_true] at hw; exact hw.2) i T c (by simpa using h)

theorem wfS_wf {s : S} (h : wfS s = true) (hl : s.objs.length = s.tmps.length) : s.WF := by
  simp only [wfS, Bool.and_eq_true] at h
  refine ⟨fun t => ?_, fun i T c hi => wfOb_get _ h.2 i T c hi, hl⟩
  have := h.1
  rw [AV.wfL_eq, List.all_eq_true] at this
  simp only [S.get, List.getD_eq_getElem?_getD]
  cases ht : s.tmps[t]? with
  | none => rfl
  | some x => exact this x (List.mem_of_getElem? ht)

/-- The state s says at least what s' says. -/
structure Le (s s' : S) : Prop where
  tmps : leT s.tmps s'.tmps
  objs : leO s.objs s'.objs
  wf : wfS s' = true
  M : s'.M.le s.M

theorem Le.gam {s s' : S} (h : Le s s') (hw : s.WF) {ρ : Nat → Nat} {a : Act} {w : World} (hg : Gam c ρ s a w) : s'.WF ∧ Gam c ρ s' a w := by
  have hob : ∀ i, leOb (s.ob i) (s'.ob i) := fun i => leO_get h.objs i
  have lv : ∀ i, s'.live i = true → s.live i = true := fun i hi => by
    have := hob i
    unfold S.live at *
    cases h1 : s'.ob i with
    | none => rw [h1] at hi; cases hi
    | cells T l =>
      rw [h1] at this
      cases h2 : s.ob i with
      | none => rw [h2] at this; exact this.elim
      | cells T' l' => rfl
  refine ⟨wfS_wf h.wf ?_, ⟨?_, fun t => leA_Den (leT_get h.tmps t) (hg.tmp t), hg.defers, Mem.on_le h.M hg.mem, fun i T l hi => ?_, fun i j hi hj => hg.inj i j (lv i hi) (lv j hj), hg.fr, fun b hb => hg.new b fun e => ?_⟩⟩
  · rw [← leO_len h.objs, ← leT_len h.tmps]; exact hw.len
  · rw [← leT_len h.tmps]; exact hg.tsz
  · have h1 := hob i
    rw [hi] at h1
    cases h2 : s.ob i with
    | none => rw [h2] at h1; exact h1.elim
    | cells T' l' =>
      rw [h2] at h1
      obtain ⟨rfl, hl⟩ := h1
      obtain ⟨cs, k1, k2, k3, k4⟩ := hg.ob i _ _ h2
      refine ⟨cs, k1, leT_DenL hl k2, ?_, k4⟩
      cases hm : s'.M (ρ i) with
      | none => rfl
      | some f => obtain ⟨g, hg', _⟩ := h.M _ f hm; rw [k3] at hg'; cases hg'
  · cases hm : s'.M b with
    | none => exact hb hm
    | some f => obtain ⟨g, hg', _⟩ := h.M b f hm; rw [e] at hg'; cases hg'

theorem OKS.weaken {stk : List It} {s s' : S} (h : OKS f c K stk s') (hle : Le s s') : OKS f c K stk s :=
  ⟨fun b cs ρ a w h1 h2 h3 h4 => let ⟨hw, hg⟩ := hle.gam h3 h4; h.ok b cs ρ a w h1 h2 hw hg⟩

/-! ### Loops -/

theorem OKS.inLoop {q : Unit → Q} {r : List It} {s : S} (h : OKS f c K (.code q :: .inLoop q :: r) s) : OKS f c K (.inLoop q :: r) s :=
  OKS.of_step (stk' := .code q :: .inLoop q :: r) (fun _ _ _ _ => step_inLoop) h

/-- A loop: a family of states at its head, a measure that each round lowers. -/
theorem OKS.loop {ι : Type} (St : ι → S) (μ : ι → Nat) (i0 : ι) {q : Unit → Q} {r : List It} {s : S} (hle : Le s (St i0))
    (h : ∀ i, (∀ j, μ j < μ i → OKS f c K (.inLoop q :: r) (St j)) → OKS f c K (.code q :: .inLoop q :: r) (St i)) : OKS f c K (.code (fun _ => .loop q) :: r) s := by
  have key : ∀ n i, μ i < n → OKS f c K (.code q :: .inLoop q :: r) (St i) := by
    intro n
    induction n with
    | zero => intro i hi; omega
    | succ n ih => intro i hi; exact h i fun j hj => (ih j (by omega)).inLoop
  refine OKS.weaken (OKS.of_step (stk' := .code q :: .inLoop q :: r) (fun _ _ _ _ => step_loop) (key _ i0 (Nat.lt_succ_self _))) hle

end
end Go.SX
