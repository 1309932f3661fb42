/- An abstract memory, abstract values and states, and what they say of a world. No program in sight. -/
import Derived.Below
namespace Go.SX
open Go.RowKit (Below)

/-- What is known of a block: all of it; or the first cells of a row of a known length. -/
inductive Frag where
  | obj (o : Obj)
  | row (T N : Nat) (c : List Value)

abbrev Mem := Nat → Option Frag

def Frag.le : Frag → Frag → Prop
  | .obj o, g => g = .obj o
  | .row T N c, .row T' N' c' => T = T' ∧ N = N' ∧ ∃ d, c' = c ++ d
  | .row _ _ _, .obj _ => False

def Frag.on : Frag → Option Obj → Prop
  | .obj o, x => x = some o
  | .row T N c, x => ∃ r, x = some (.cells (c ++ r).toArray T (0, 0)) ∧ (c ++ r).length = N

def Mem.le (M M' : Mem) : Prop := ∀ b f, M b = some f → ∃ g, M' b = some g ∧ f.le g
def Mem.on (M : Mem) (w : World) : Prop := ∀ b f, M b = some f → f.on w.heap[b]?
def Mem.set (M : Mem) (b : Nat) (f : Frag) : Mem := fun i => if i = b then some f else M i
def Mem.cell (M : Mem) (b o : Nat) : Option Value :=
  match M b with
  | some (.obj (.cells c _ _)) => c[o]?
  | some (.row _ _ c) => c[o]?
  | _ => none

theorem Frag.le_refl (f : Frag) : f.le f := by
  cases f with
  | obj o => rfl
  | row T N c => exact ⟨rfl, rfl, [], by simp⟩

theorem Frag.le_trans {f g h : Frag} (a : f.le g) (b : g.le h) : f.le h := by
  cases f with
  | obj o => simp only [Frag.le] at a; subst a; exact b
  | row T N c =>
    cases g with
    | obj o => exact a.elim
    | row T' N' c' =>
      cases h with
      | obj o => exact b.elim
      | row T'' N'' c'' =>
        obtain ⟨rfl, rfl, d, rfl⟩ := a
        obtain ⟨rfl, rfl, e, rfl⟩ := b
        exact ⟨rfl, rfl, d ++ e, by simp⟩

theorem Mem.le_refl (M : Mem) : M.le M := fun _ f h => ⟨f, h, f.le_refl⟩
theorem Mem.le_trans {M N O : Mem} (a : M.le N) (b : N.le O) : M.le O := fun k f h =>
  let ⟨_, hg, l⟩ := a k f h
  let ⟨i, hi, l'⟩ := b k _ hg
  ⟨i, hi, Frag.le_trans l l'⟩

theorem Frag.on_le {f g : Frag} {x : Option Obj} (h : f.le g) (hg : g.on x) : f.on x := by
  cases f with
  | obj o => simp only [Frag.le] at h; subst h; exact hg
  | row T N c =>
    cases g with
    | obj o => exact h.elim
    | row T' N' c' =>
      obtain ⟨rfl, rfl, d, rfl⟩ := h
      obtain ⟨r, h1, h2⟩ := hg
      exact ⟨d ++ r, by simpa using h1, by simpa using h2⟩

theorem Mem.on_le {M N : Mem} {w : World} (h : M.le N) (hn : N.on w) : M.on w := fun b f hf =>
  let ⟨_, hg, l⟩ := h b f hf
  Frag.on_le l (hn b _ hg)

theorem Mem.cell_le {M N : Mem} (h : M.le N) {b o : Nat} {v : Value} (hc : M.cell b o = some v) : N.cell b o = some v := by
  unfold Mem.cell at *
  cases hm : M b with
  | none => simp [hm] at hc
  | some f =>
    obtain ⟨g, hg, l⟩ := h b f hm
    rw [hm] at hc
    rw [hg]
    cases f with
    | obj ob => simp only [Frag.le] at l; subst l; exact hc
    | row T n c =>
      cases g with
      | obj _ => exact l.elim
      | row T' n' c' =>
        obtain ⟨rfl, rfl, d, rfl⟩ := l
        simp only at hc ⊢
        rw [List.getElem?_append_left]
        · exact hc
        · exact (List.getElem?_eq_some_iff.1 hc).1

theorem Mem.cell_on {M : Mem} {w : World} (h : M.on w) {b o : Nat} {v : Value} (hc : M.cell b o = some v) : w.cell? ⟨b, o, none⟩ = some v := by
  unfold Mem.cell at hc
  cases hm : M b with
  | none => simp [hm] at hc
  | some f =>
    rw [hm] at hc
    have hf := h b f hm
    cases f with
    | obj ob =>
      simp only [Frag.on] at hf
      cases ob with
      | cells c T fr => simp [World.cell?, hf]; exact hc
      | _ => simp at hc
    | row T n c =>
      obtain ⟨r, h1, h2⟩ := hf
      simp only at hc
      have hlt := (List.getElem?_eq_some_iff.1 hc).1
      simp only [World.cell?, h1]
      simp [List.getElem?_append_left hlt, hc]

theorem Mem.on_set {M : Mem} {w : World} {b : Nat} {f : Frag} (h : M.on w) (hf : f.on w.heap[b]?) : (M.set b f).on w := by
  intro i g hg
  unfold Mem.set at hg
  by_cases e : i = b
  · subst e; simp at hg; subst hg; exact hf
  · simp [e] at hg; exact h i g hg

theorem Mem.le_set {M : Mem} {b : Nat} {f : Frag} (h : M b = none) : M.le (M.set b f) := by
  intro i g hg
  have : i ≠ b := fun e => by subst e; rw [h] at hg; cases hg
  exact ⟨g, by simp [Mem.set, this, hg], g.le_refl⟩

theorem Mem.set_comm {M : Mem} {b b' : Nat} {f f' : Frag} (h : b ≠ b') : (M.set b f).set b' f' = (M.set b' f').set b f := by
  funext i
  unfold Mem.set
  by_cases e : i = b <;> by_cases e' : i = b' <;> simp_all

theorem Mem.set_le_set {M N : Mem} {b : Nat} {f g : Frag} (h : M.le N) (hf : f.le g) : (M.set b f).le (N.set b g) := by
  intro i k hk
  unfold Mem.set at *
  by_cases e : i = b
  · subst e; simp at hk ⊢; subst hk; exact hf
  · simp [e] at hk ⊢; exact h i k hk

/-! ### Abstract values -/

inductive AV where
  | any
  | v (x : Unit → Value)
  | tt
  | ff
  | sb (b : Unit → Bool)
  | int (k : IntKind) (n : Int)
  | sym (k : IntKind) (n : Unit → Int)
  | ptr (id off : Nat)
  | el (b o : Unit → Nat)
  | slice (a : Unit → Option Addr) (n c : Unit → Nat)
  | nils
  | tup (l : List AV)
  | agg (l : List AV)
  | clo (fn : Fn) (first cap : List AV)
  deriving Inhabited

mutual
def AV.den (ρ : Nat → Nat) : AV → Value
  | .any => undef
  | .v x => x ()
  | .tt => .bool true
  | .ff => .bool false
  | .sb b => .bool (b ())
  | .int k n => .int k n
  | .sym k n => .int k (n ())
  | .ptr id off => .pointer (some ⟨ρ id, off, none⟩)
  | .el b o => .pointer (some ⟨b (), o (), none⟩)
  | .slice a n c => .slice (a ()) (n ()) (c ())
  | .nils => .slice none 0 0
  | .tup l => .tuple (AV.denL ρ l).toArray
  | .agg l => .agg (AV.denL ρ l).toArray
  | .clo fn f c => .func fn (AV.denL ρ f).toArray (AV.denL ρ c).toArray
def AV.denL (ρ : Nat → Nat) : List AV → List Value
  | [] => []
  | x :: l => AV.den ρ x :: AV.denL ρ l
end

mutual
/-- All pointers to local variables are to variables that there are. -/
def AV.wf (p : Nat → Bool) : AV → Bool
  | .ptr id _ => p id
  | .tup l => AV.wfL p l
  | .agg l => AV.wfL p l
  | .clo _ f c => AV.wfL p f && AV.wfL p c
  | _ => true
def AV.wfL (p : Nat → Bool) : List AV → Bool
  | [] => true
  | x :: l => AV.wf p x && AV.wfL p l
end

mutual
/-- Nothing unknown in it. -/
def AV.sure : AV → Bool
  | .any => false
  | .tup l => AV.sureL l
  | .agg l => AV.sureL l
  | .clo _ f c => AV.sureL f && AV.sureL c
  | _ => true
def AV.sureL : List AV → Bool
  | [] => true
  | x :: l => AV.sure x && AV.sureL l
end

/-- Neither unknown parts nor pointers to local variables. -/
def AV.ground (x : AV) : Bool := x.sure && x.wf (fun _ => false)

def AV.val (x : AV) : Value := x.den (fun _ => 0)

def Den (ρ : Nat → Nat) (x : AV) (v : Value) : Prop := x = .any ∨ v = x.den ρ

theorem AV.denL_eq (ρ : Nat → Nat) (l : List AV) : AV.denL ρ l = l.map (AV.den ρ) := by
  induction l with
  | nil => rfl
  | cons x l ih => simp [AV.denL, ih]

theorem AV.wfL_eq (p : Nat → Bool) (l : List AV) : AV.wfL p l = l.all (AV.wf p) := by
  induction l with
  | nil => rfl
  | cons x l ih => simp [AV.wfL, ih]

theorem AV.sureL_eq (l : List AV) : AV.sureL l = l.all AV.sure := by
  induction l with
  | nil => rfl
  | cons x l ih => simp [AV.sureL, ih]

mutual
theorem AV.den_congr {ρ ρ' : Nat → Nat} {p : Nat → Bool} (h : ∀ i, p i = true → ρ i = ρ' i) : ∀ x : AV, x.wf p = true → x.den ρ = x.den ρ'
  | .any, _ | .v _, _ | .tt, _ | .ff, _ | .sb _, _ | .int _ _, _ | .sym _ _, _ | .el _ _, _ | .slice _ _ _, _ | .nils, _ => by simp [AV.den]
  | .ptr id off, hx => by simp only [AV.wf] at hx; simp [AV.den, h id hx]
  | .tup l, hx => by simp only [AV.wf] at hx; simp [AV.den, AV.denL_congr h l hx]
  | .agg l, hx => by simp only [AV.wf] at hx; simp [AV.den, AV.denL_congr h l hx]
  | .clo fn f c, hx => by
    simp only [AV.wf, Bool.and_eq_true] at hx
    simp [AV.den, AV.denL_congr h f hx.1, AV.denL_congr h c hx.2]
theorem AV.denL_congr {ρ ρ' : Nat → Nat} {p : Nat → Bool} (h : ∀ i, p i = true → ρ i = ρ' i) : ∀ l : List AV, AV.wfL p l = true → AV.denL ρ l = AV.denL ρ' l
  | [], _ => rfl
  | x :: l, hx => by
    simp only [AV.wfL, Bool.and_eq_true] at hx
    simp [AV.denL, AV.den_congr h x hx.1, AV.denL_congr h l hx.2]
end

mutual
theorem AV.wf_mono {p q : Nat → Bool} (h : ∀ i, p i = true → q i = true) : ∀ x : AV, x.wf p = true → x.wf q = true
  | .any, _ | .v _, _ | .tt, _ | .ff, _ | .sb _, _ | .int _ _, _ | .sym _ _, _ | .el _ _, _ | .slice _ _ _, _ | .nils, _ => rfl
  | .ptr id off, hx => by simp only [AV.wf] at hx ⊢; exact h id hx
  | .tup l, hx => by simp only [AV.wf] at hx ⊢; exact AV.wfL_mono h l hx
  | .agg l, hx => by simp only [AV.wf] at hx ⊢; exact AV.wfL_mono h l hx
  | .clo fn f c, hx => by
    simp only [AV.wf, Bool.and_eq_true] at hx ⊢
    exact ⟨AV.wfL_mono h f hx.1, AV.wfL_mono h c hx.2⟩
theorem AV.wfL_mono {p q : Nat → Bool} (h : ∀ i, p i = true → q i = true) : ∀ l : List AV, AV.wfL p l = true → AV.wfL q l = true
  | [], _ => rfl
  | x :: l, hx => by
    simp only [AV.wfL, Bool.and_eq_true] at hx ⊢
    exact ⟨AV.wf_mono h x hx.1, AV.wfL_mono h l hx.2⟩
end

theorem AV.ground_wf {x : AV} (h : x.ground = true) (p : Nat → Bool) : x.wf p = true := by
  unfold AV.ground at h
  simp only [Bool.and_eq_true] at h
  exact AV.wf_mono (p := fun _ => false) (fun i hi => by cases hi) x h.2

theorem AV.ground_sure {x : AV} (h : x.ground = true) : x.sure = true := by
  unfold AV.ground at h
  simp only [Bool.and_eq_true] at h
  exact h.1

theorem AV.ground_den {x : AV} (h : x.ground = true) (ρ : Nat → Nat) : x.den ρ = x.val := by
  unfold AV.ground at h
  simp only [Bool.and_eq_true] at h
  exact AV.den_congr (p := fun _ => false) (fun i hi => by cases hi) x h.2

theorem Den.congr {ρ ρ' : Nat → Nat} {p : Nat → Bool} (h : ∀ i, p i = true → ρ i = ρ' i) {x : AV} {v : Value} (hx : x.wf p = true) (hd : Den ρ x v) : Den ρ' x v := by
  rcases hd with hd | hd
  · exact .inl hd
  · exact .inr (hd.trans (AV.den_congr h x hx))

theorem Den.of_ground {x : AV} (h : x.ground = true) (ρ : Nat → Nat) : Den ρ x x.val := .inr (AV.ground_den h ρ).symm
theorem Den.some (ρ : Nat → Nat) (x : AV) : ∃ v, Den ρ x v := ⟨x.den ρ, .inr rfl⟩

/-- Cell by cell. -/
def DenL (ρ : Nat → Nat) : List AV → List Value → Prop
  | [], [] => True
  | x :: l, v :: k => Den ρ x v ∧ DenL ρ l k
  | _, _ => False

theorem DenL.length {ρ : Nat → Nat} : ∀ {l : List AV} {k : List Value}, DenL ρ l k → l.length = k.length
  | [], [], _ => rfl
  | _ :: _, _ :: _, h => by simp [DenL.length h.2]
  | [], _ :: _, h => h.elim
  | _ :: _, [], h => h.elim

theorem DenL.congr {ρ ρ' : Nat → Nat} {p : Nat → Bool} (h : ∀ i, p i = true → ρ i = ρ' i) : ∀ {l : List AV} {k : List Value}, AV.wfL p l = true → DenL ρ l k → DenL ρ' l k
  | [], [], _, _ => trivial
  | x :: l, v :: k, hw, hd => by
    simp only [AV.wfL, Bool.and_eq_true] at hw
    exact ⟨Den.congr h hw.1 hd.1, DenL.congr h hw.2 hd.2⟩
  | [], _ :: _, _, hd => hd.elim
  | _ :: _, [], _, hd => hd.elim

theorem DenL.of_den (ρ : Nat → Nat) : ∀ l : List AV, DenL ρ l (AV.denL ρ l)
  | [] => trivial
  | _ :: l => ⟨.inr rfl, DenL.of_den ρ l⟩

theorem DenL.sure {ρ : Nat → Nat} : ∀ {l : List AV} {k : List Value}, AV.sureL l = true → DenL ρ l k → k = AV.denL ρ l
  | [], [], _, _ => rfl
  | x :: l, v :: k, hs, hd => by
    simp only [AV.sureL, Bool.and_eq_true] at hs
    rw [AV.denL, DenL.sure hs.2 hd.2]
    rcases hd.1 with e | e
    · rw [e] at hs; simp [AV.sure] at hs
    · rw [e]
  | [], _ :: _, _, hd => hd.elim
  | _ :: _, [], _, hd => hd.elim

theorem DenL.get {ρ : Nat → Nat} : ∀ {l : List AV} {k : List Value} {i : Nat} {x : AV}, DenL ρ l k → l[i]? = some x → ∃ v, k[i]? = some v ∧ Den ρ x v
  | [], [], i, x, _, h => by simp at h
  | y :: l, v :: k, 0, x, hd, h => by simp at h; subst h; exact ⟨v, by simp, hd.1⟩
  | y :: l, v :: k, i + 1, x, hd, h => by simp at h; simpa using DenL.get hd.2 h
  | [], _ :: _, _, _, hd, _ => hd.elim
  | _ :: _, [], _, _, hd, _ => hd.elim

theorem DenL.append {ρ : Nat → Nat} : ∀ {l l' : List AV} {k k' : List Value}, DenL ρ l k → DenL ρ l' k' → DenL ρ (l ++ l') (k ++ k')
  | [], _, [], _, _, h' => h'
  | _ :: _, _, _ :: _, _, h, h' => ⟨h.1, DenL.append h.2 h'⟩
  | [], _, _ :: _, _, h, _ => h.elim
  | _ :: _, _, [], _, h, _ => h.elim

theorem DenL.take {ρ : Nat → Nat} : ∀ (n : Nat) {l : List AV} {k : List Value}, DenL ρ l k → DenL ρ (l.take n) (k.take n)
  | 0, _, _, _ => by simp [DenL]
  | n + 1, [], [], _ => by simp [DenL]
  | n + 1, _ :: _, _ :: _, h => ⟨h.1, DenL.take n h.2⟩
  | _ + 1, [], _ :: _, h => h.elim
  | _ + 1, _ :: _, [], h => h.elim

theorem DenL.drop {ρ : Nat → Nat} : ∀ (n : Nat) {l : List AV} {k : List Value}, DenL ρ l k → DenL ρ (l.drop n) (k.drop n)
  | 0, _, _, h => by simpa using h
  | n + 1, [], [], _ => by simp [DenL]
  | n + 1, _ :: _, _ :: _, h => by simpa using DenL.drop n h.2
  | _ + 1, [], _ :: _, h => h.elim
  | _ + 1, _ :: _, [], h => h.elim

/-! ### Abstract states -/

inductive Ob where
  | none
  | cells (T : Nat) (c : List AV)
  deriving Inhabited

def Ob.live : Ob → Bool
  | .none => false
  | .cells _ _ => true

structure S where
  tmps : List AV
  objs : List Ob
  M : Mem

def S.get (s : S) (t : Nat) : AV := s.tmps.getD t (.v fun _ => undef)
def S.put (s : S) (d : Option Nat) (x : AV) : S :=
  match d with
  | some d => { s with tmps := s.tmps.set d x }
  | none => s
def S.ob (s : S) (i : Nat) : Ob := s.objs.getD i .none
def S.setOb (s : S) (i : Nat) (o : Ob) : S := { s with objs := s.objs.set i o }
def S.live (s : S) (i : Nat) : Bool := (s.ob i).live

structure S.WF (s : S) : Prop where
  tmps : ∀ t, (s.get t).wf s.live = true
  objs : ∀ i T c, s.ob i = .cells T c → AV.wfL s.live c = true
  len : s.objs.length = s.tmps.length

/-- What stays as it is. -/
structure Ct where
  w0 : World
  M0 : Mem
  lent : Nat → Bool

def Ct.B0 (c : Ct) : Nat := c.w0.heap.size

/-- Is what lies there frozen? -/
def frozAt (o : Option Obj) (off : Nat) : Bool :=
  match o with
  | some (.cells _ _ (lo, hi)) => lo ≤ off && off < hi
  | _ => false

theorem frozAt_z {cs : Array Value} {T : Nat} (off : Nat) : frozAt (some (.cells cs T (0, 0))) off = false := by simp [frozAt]
theorem frozAt_row {T N : Nat} {c : List Value} {o : Option Obj} (h : Frag.on (.row T N c) o) (off : Nat) : frozAt o off = false := by
  obtain ⟨r, rfl, _⟩ := h
  exact frozAt_z off
theorem frozen_at (w : World) (a : Addr) : w.frozen? a = frozAt w.heap[a.block]? a.off := rfl
theorem froz_of {w w' : World} {b : Nat} (h : ∀ k, k ≠ b → w'.heap[k]? = w.heap[k]?) (h1 : ∀ off, frozAt w'.heap[b]? off = false) (h2 : ∀ off, frozAt w.heap[b]? off = false) (a : Addr) : w'.frozen? a = w.frozen? a := by
  rw [frozen_at, frozen_at]
  by_cases e : a.block = b
  · rw [e, h1, h2]
  · rw [h _ e]
theorem froz_alloc (w : World) {o : Obj} (ho : ∀ off, frozAt (some o) off = false) (a : Addr) : (w.alloc o).frozen? a = w.frozen? a := by
  refine froz_of (b := w.heap.size) (fun k hk => ?_) (fun off => ?_) (fun off => ?_) a
  · simp only [World.alloc, Array.getElem?_push, if_neg hk]
  · simp only [World.alloc, Array.getElem?_push, if_true]; exact ho off
  · rw [Array.getElem?_eq_none (Nat.le_refl _)]; rfl

structure Fr (c : Ct) (w : World) : Prop where
  os : w.os = c.w0.os
  tape : w.tape = c.w0.tape
  output : w.output = c.w0.output
  froz : ∀ a, w.frozen? a = c.w0.frozen? a
  size : c.w0.heap.size ≤ w.heap.size
  block : ∀ b, b < c.w0.heap.size → c.lent b = false → w.heap[b]? = c.w0.heap[b]?

/-- A frame and a world that an abstract state describes. -/
structure Gam (c : Ct) (ρ : Nat → Nat) (s : S) (a : Act) (w : World) : Prop where
  tsz : a.tmps.size = s.tmps.length
  tmp : ∀ t, Den ρ (s.get t) (a.tmps.getD t undef)
  defers : a.defers = []
  mem : s.M.on w
  ob : ∀ i T l, s.ob i = .cells T l → ∃ cs : List Value, w.heap[ρ i]? = some (.cells cs.toArray T (0, 0)) ∧ DenL ρ l cs ∧ s.M (ρ i) = none ∧ c.B0 ≤ ρ i
  inj : ∀ i j, s.live i = true → s.live j = true → ρ i = ρ j → i = j
  fr : Fr c w
  new : ∀ b, s.M b ≠ none → c.M0 b ≠ none ∨ c.B0 ≤ b

end Go.SX
