/- An abstract memory, abstract values and states, and what they say of a world. No program in sight. -/
import Derived.Below
import Derived.Orders
import Derived.Still
import Derived.Handy
import Derived.WalkKit
namespace Go.SX
open Go.RowKit (Below)

/-- What is known of a block: all of it; or the first cells of a row of a known length. -/
inductive Frag where
  | obj (o : Obj)
  | row (T N : Nat) (c : List Value)

abbrev Mem := Nat → Option Frag

def Frag.le : Frag → Frag → Prop
  | .obj o, g => g = .obj o
  | .row T N c, .row T' N' c' => T = T' ∧ N = N' ∧ ∃ d, c' = c ++ d
  | .row _ _ _, .obj _ => False

def Frag.on : Frag → Option Obj → Prop
  | .obj o, x => x = some o
  | .row T N c, x => ∃ r, x = some (.cells (c ++ r).toArray T (0, 0)) ∧ (c ++ r).length = N

def Mem.le (M M' : Mem) : Prop := ∀ b f, M b = some f → ∃ g, M' b = some g ∧ f.le g
def Mem.on (M : Mem) (w : World) : Prop := ∀ b f, M b = some f → f.on w.heap[b]?
def Mem.set (M : Mem) (b : Nat) (f : Frag) : Mem := fun i => if i = b then some f else M i
def Mem.cell (M : Mem) (b o : Nat) : Option Value :=
  match M b with
  | some (.obj (.cells c _ _)) => c[o]?
  | some (.row _ _ c) => c[o]?
  | _ => none

theorem Frag.le_refl (f : Frag) : f.le f := by
  cases f with
  | obj o => rfl
  | row T N c => exact ⟨rfl, rfl, [], by simp⟩

theorem Frag.le_trans {f g h : Frag} (a : f.le g) (b : g.le h) : f.le h := by
  cases f with
  | obj o => simp only [Frag.le] at a; subst a; exact b
  | row T N c =>
    cases g with
    | obj o => exact a.elim
    | row T' N' c' =>
      cases h with
      | obj o => exact b.elim
      | row T'' N'' c'' =>
        obtain ⟨rfl, rfl, d, rfl⟩ := a
        obtain ⟨rfl, rfl, e, rfl⟩ := b
        exact ⟨rfl, rfl, d ++ e, by simp⟩

theorem Mem.le_refl (M : Mem) : M.le M := fun _ f h => ⟨f, h, f.le_refl⟩
theorem Mem.le_trans {M N O : Mem} (a : M.le N) (b : N.le O) : M.le O := fun k f h =>
  let ⟨_, hg, l⟩ := a k f h
  let ⟨i, hi, l'⟩ := b k _ hg
  ⟨i, hi, Frag.le_trans l l'⟩

theorem Frag.on_le {f g : Frag} {x : Option Obj} (h : f.le g) (hg : g.on x) : f.on x := by
  cases f with
  | obj o => simp only [Frag.le] at h; subst h; exact hg
  | row T N c =>
    cases g with
    | obj o => exact h.elim
    | row T' N' c' =>
      obtain ⟨rfl, rfl, d, rfl⟩ := h
      obtain ⟨r, h1, h2⟩ := hg
      exact ⟨d ++ r, by simpa using h1, by simpa using h2⟩

theorem Mem.on_le {M N : Mem} {w : World} (h : M.le N) (hn : N.on w) : M.on w := fun b f hf =>
  let ⟨_, hg, l⟩ := h b f hf
  Frag.on_le l (hn b _ hg)

theorem Mem.cell_le {M N : Mem} (h : M.le N) {b o : Nat} {v : Value} (hc : M.cell b o = some v) : N.cell b o = some v := by
  unfold Mem.cell at *
  cases hm : M b with
  | none => simp [hm] at hc
  | some f =>
    obtain ⟨g, hg, l⟩ := h b f hm
    rw [hm] at hc
    rw [hg]
    cases f with
    | obj ob => simp only [Frag.le] at l; subst l; exact hc
    | row T n c =>
      cases g with
      | obj _ => exact l.elim
      | row T' n' c' =>
        obtain ⟨rfl, rfl, d, rfl⟩ := l
        simp only at hc ⊢
        rw [List.getElem?_append_left]
        · exact hc
        · exact (List.getElem?_eq_some_iff.1 hc).1

theorem Mem.cell_on {M : Mem} {w : World} (h : M.on w) {b o : Nat} {v : Value} (hc : M.cell b o = some v) : w.cell? ⟨b, o, none⟩ = some v := by
  unfold Mem.cell at hc
  cases hm : M b with
  | none => simp [hm] at hc
  | some f =>
    rw [hm] at hc
    have hf := h b f hm
    cases f with
    | obj ob =>
      simp only [Frag.on] at hf
      cases ob with
      | cells c T fr => simp [World.cell?, hf]; exact hc
      | _ => simp at hc
    | row T n c =>
      obtain ⟨r, h1, h2⟩ := hf
      simp only at hc
      have hlt := (List.getElem?_eq_some_iff.1 hc).1
      simp only [World.cell?, h1]
      simp [List.getElem?_append_left hlt, hc]

theorem Mem.on_set {M : Mem} {w : World} {b : Nat} {f : Frag} (h : M.on w) (hf : f.on w.heap[b]?) : (M.set b f).on w := by
  intro i g hg
  unfold Mem.set at hg
  by_cases e : i = b
  · subst e; simp at hg; subst hg; exact hf
  · simp [e] at hg; exact h i g hg

theorem Mem.le_set {M : Mem} {b : Nat} {f : Frag} (h : M b = none) : M.le (M.set b f) := by
  intro i g hg
  have : i ≠ b := fun e => by subst e; rw [h] at hg; cases hg
  exact ⟨g, by simp [Mem.set, this, hg], g.le_refl⟩

theorem Mem.set_comm {M : Mem} {b b' : Nat} {f f' : Frag} (h : b ≠ b') : (M.set b f).set b' f' = (M.set b' f').set b f := by
  funext i
  unfold Mem.set
  by_cases e : i = b <;> by_cases e' : i = b' <;> simp_all

theorem Mem.set_le_set {M N : Mem} {b : Nat} {f g : Frag} (h : M.le N) (hf : f.le g) : (M.set b f).le (N.set b g) := by
  intro i k hk
  unfold Mem.set at *
  by_cases e : i = b
  · subst e; simp at hk ⊢; subst hk; exact hf
  · simp [e] at hk ⊢; exact h i k hk

/-! ### Abstract values -/

inductive AV where
  | any
  | v (x : Unit → Value)
  | tt
  | ff
  | sb (b : Unit → Bool)
  | int (k : IntKind) (n : Int)
  | sym (k : IntKind) (n : Unit → Int)
  | ptr (id off : Nat)
  | el (b o : Unit → Nat)
  | slice (a : Unit → Option Addr) (n c : Unit → Nat)
  | nils
  | tup (l : List AV)
  | agg (l : List AV)
  | clo (fn : Fn) (first cap : List AV)
  deriving Inhabited

mutual
def AV.den (ρ : Nat → Nat) : AV → Value
  | .any => undef
  | .v x => x ()
  | .tt => .bool true
  | .ff => .bool false
  | .sb b => .bool (b ())
  | .int k n => .int k n
  | .sym k n => .int k (n ())
  | .ptr id off => .pointer (some ⟨ρ id, off, none⟩)
  | .el b o => .pointer (some ⟨b (), o (), none⟩)
  | .slice a n c => .slice (a ()) (n ()) (c ())
  | .nils => .slice none 0 0
  | .tup l => .tuple (AV.denL ρ l).toArray
  | .agg l => .agg (AV.denL ρ l).toArray
  | .clo fn f c => .func fn (AV.denL ρ f).toArray (AV.denL ρ c).toArray
def AV.denL (ρ : Nat → Nat) : List AV → List Value
  | [] => []
  | x :: l => AV.den ρ x :: AV.denL ρ l
end

mutual
/-- All pointers to local variables are to variables that there are. -/
def AV.wf (p : Nat → Bool) : AV → Bool
  | .ptr id _ => p id
  | .tup l => AV.wfL p l
  | .agg l => AV.wfL p l
  | .clo _ f c => AV.wfL p f && AV.wfL p c
  | _ => true
def AV.wfL (p : Nat → Bool) : List AV → Bool
  | [] => true
  | x :: l => AV.wf p x && AV.wfL p l
end

mutual
/-- Nothing unknown in it. -/
def AV.sure : AV → Bool
  | .any => false
  | .tup l => AV.sureL l
  | .agg l => AV.sureL l
  | .clo _ f c => AV.sureL f && AV.sureL c
  | _ => true
def AV.sureL : List AV → Bool
  | [] => true
  | x :: l => AV.sure x && AV.sureL l
end

/-- Neither unknown parts nor pointers to local variables. -/
def AV.ground (x : AV) : Bool := x.sure && x.wf (fun _ => false)

def AV.val (x : AV) : Value := x.den (fun _ => 0)

def Den (ρ : Nat → Nat) (x : AV) (v : Value) : Prop := x = .any ∨ v = x.den ρ

theorem AV.denL_eq (ρ : Nat → Nat) (l : List AV) : AV.denL ρ l = l.map (AV.den ρ) := by
  induction l with
  | nil => rfl
  | cons x l ih => simp [AV.denL, ih]

theorem AV.wfL_eq (p : Nat → Bool) (l : List AV) : AV.wfL p l = l.all (AV.wf p) := by
  induction l with
  | nil => rfl
  | cons x l ih => simp [AV.wfL, ih]

theorem AV.sureL_eq (l : List AV) : AV.sureL l = l.all AV.sure := by
  induction l with
  | nil => rfl
  | cons x l ih => simp [AV.sureL, ih]

mutual
theorem AV.den_congr {ρ ρ' : Nat → Nat} {p : Nat → Bool} (h : ∀ i, p i = true → ρ i = ρ' i) : ∀ x : AV, x.wf p = true → x.den ρ = x.den ρ'
  | .any, _ | .v _, _ | .tt, _ | .ff, _ | .sb _, _ | .int _ _, _ | .sym _ _, _ | .el _ _, _ | .slice _ _ _, _ | .nils, _ => by simp [AV.den]
  | .ptr id off, hx => by simp only [AV.wf] at hx; simp [AV.den, h id hx]
  | .tup l, hx => by simp only [AV.wf] at hx; simp [AV.den, AV.denL_congr h l hx]
  | .agg l, hx => by simp only [AV.wf] at hx; simp [AV.den, AV.denL_congr h l hx]
  | .clo fn f c, hx => by
    simp only [AV.wf, Bool.and_eq_true] at hx
    simp [AV.den, AV.denL_congr h f hx.1, AV.denL_congr h c hx.2]
theorem AV.denL_congr {ρ ρ' : Nat → Nat} {p : Nat → Bool} (h : ∀ i, p i = true → ρ i = ρ' i) : ∀ l : List AV, AV.wfL p l = true → AV.denL ρ l = AV.denL ρ' l
  | [], _ => rfl
  | x :: l, hx => by
    simp only [AV.wfL, Bool.and_eq_true] at hx
    simp [AV.denL, AV.den_congr h x hx.1, AV.denL_congr h l hx.2]
end

mutual
theorem AV.wf_mono {p q : Nat → Bool} (h : ∀ i, p i = true → q i = true) : ∀ x : AV, x.wf p = true → x.wf q = true
  | .any, _ | .v _, _ | .tt, _ | .ff, _ | .sb _, _ | .int _ _, _ | .sym _ _, _ | .el _ _, _ | .slice _ _ _, _ | .nils, _ => rfl
  | .ptr id off, hx => by simp only [AV.wf] at hx ⊢; exact h id hx
  | .tup l, hx => by simp only [AV.wf] at hx ⊢; exact AV.wfL_mono h l hx
  | .agg l, hx => by simp only [AV.wf] at hx ⊢; exact AV.wfL_mono h l hx
  | .clo fn f c, hx => by
    simp only [AV.wf, Bool.and_eq_true] at hx ⊢
    exact ⟨AV.wfL_mono h f hx.1, AV.wfL_mono h c hx.2⟩
theorem AV.wfL_mono {p q : Nat → Bool} (h : ∀ i, p i = true → q i = true) : ∀ l : List AV, AV.wfL p l = true → AV.wfL q l = true
  | [], _ => rfl
  | x :: l, hx => by
    simp only [AV.wfL, Bool.and_eq_true] at hx ⊢
    exact ⟨AV.wf_mono h x hx.1, AV.wfL_mono h l hx.2⟩
end

theorem AV.ground_wf {x : AV} (h : x.ground = true) (p : Nat → Bool) : x.wf p = true := by
  unfold AV.ground at h
  simp only [Bool.and_eq_true] at h
  exact AV.wf_mono (p := fun _ => false) (fun i hi => by cases hi) x h.2

theorem AV.ground_sure {x : AV} (h : x.ground = true) : x.sure = true := by
  unfold AV.ground at h
  simp only [Bool.and_eq_true] at h
  exact h.1

theorem AV.ground_den {x : AV} (h : x.ground = true) (ρ : Nat → Nat) : x.den ρ = x.val := by
  unfold AV.ground at h
  simp only [Bool.and_eq_true] at h
  exact AV.den_congr (p := fun _ => false) (fun i hi => by cases hi) x h.2

theorem Den.congr {ρ ρ' : Nat → Nat} {p : Nat → Bool} (h : ∀ i, p i = true → ρ i = ρ' i) {x : AV} {v : Value} (hx : x.wf p = true) (hd : Den ρ x v) : Den ρ' x v := by
  rcases hd with hd | hd
  · exact .inl hd
  · exact .inr (hd.trans (AV.den_congr h x hx))

theorem Den.of_ground {x : AV} (h : x.ground = true) (ρ : Nat → Nat) : Den ρ x x.val := .inr (AV.ground_den h ρ).symm
theorem Den.some (ρ : Nat → Nat) (x : AV) : ∃ v, Den ρ x v := ⟨x.den ρ, .inr rfl⟩

/-- Cell by cell. -/
def DenL (ρ : Nat → Nat) : List AV → List Value → Prop
  | [], [] => True
  | x :: l, v :: k => Den ρ x v ∧ DenL ρ l k
  | _, _ => False

theorem DenL.length {ρ : Nat → Nat} : ∀ {l : List AV} {k : List Value}, DenL ρ l k → l.length = k.length
  | [], [], _ => rfl
  | _ :: _, _ :: _, h => by simp [DenL.length h.2]
  | [], _ :: _, h => h.elim
  | _ :: _, [], h => h.elim

theorem DenL.congr {ρ ρ' : Nat → Nat} {p : Nat → Bool} (h : ∀ i, p i = true → ρ i = ρ' i) : ∀ {l : List AV} {k : List Value}, AV.wfL p l = true → DenL ρ l k → DenL ρ' l k
  | [], [], _, _ => trivial
  | x :: l, v :: k, hw, hd => by
    simp only [AV.wfL, Bool.and_eq_true] at hw
    exact ⟨Den.congr h hw.1 hd.1, DenL.congr h hw.2 hd.2⟩
  | [], _ :: _, _, hd => hd.elim
  | _ :: _, [], _, hd => hd.elim

theorem DenL.of_den (ρ : Nat → Nat) : ∀ l : List AV, DenL ρ l (AV.denL ρ l)
  | [] => trivial
  | _ :: l => ⟨.inr rfl, DenL.of_den ρ l⟩

theorem DenL.sure {ρ : Nat → Nat} : ∀ {l : List AV} {k : List Value}, AV.sureL l = true → DenL ρ l k → k = AV.denL ρ l
  | [], [], _, _ => rfl
  | x :: l, v :: k, hs, hd => by
    simp only [AV.sureL, Bool.and_eq_true] at hs
    rw [AV.denL, DenL.sure hs.2 hd.2]
    rcases hd.1 with e | e
    · rw [e] at hs; simp [AV.sure] at hs
    · rw [e]
  | [], _ :: _, _, hd => hd.elim
  | _ :: _, [], _, hd => hd.elim

theorem DenL.get {ρ : Nat → Nat} : ∀ {l : List AV} {k : List Value} {i : Nat} {x : AV}, DenL ρ l k → l[i]? = some x → ∃ v, k[i]? = some v ∧ Den ρ x v
  | [], [], i, x, _, h => by simp at h
  | y :: l, v :: k, 0, x, hd, h => by simp at h; subst h; exact ⟨v, by simp, hd.1⟩
  | y :: l, v :: k, i + 1, x, hd, h => by simp at h; simpa using DenL.get hd.2 h
  | [], _ :: _, _, _, hd, _ => hd.elim
  | _ :: _, [], _, _, hd, _ => hd.elim

theorem DenL.append {ρ : Nat → Nat} : ∀ {l l' : List AV} {k k' : List Value}, DenL ρ l k → DenL ρ l' k' → DenL ρ (l ++ l') (k ++ k')
  | [], _, [], _, _, h' => h'
  | _ :: _, _, _ :: _, _, h, h' => ⟨h.1, DenL.append h.2 h'⟩
  | [], _, _ :: _, _, h, _ => h.elim
  | _ :: _, _, [], _, h, _ => h.elim

theorem DenL.take {ρ : Nat → Nat} : ∀ (n : Nat) {l : List AV} {k : List Value}, DenL ρ l k → DenL ρ (l.take n) (k.take n)
  | 0, _, _, _ => by simp [DenL]
  | n + 1, [], [], _ => by simp [DenL]
  | n + 1, _ :: _, _ :: _, h => ⟨h.1, DenL.take n h.2⟩
  | _ + 1, [], _ :: _, h => h.elim
  | _ + 1, _ :: _, [], h => h.elim

theorem DenL.drop {ρ : Nat → Nat} : ∀ (n : Nat) {l : List AV} {k : List Value}, DenL ρ l k → DenL ρ (l.drop n) (k.drop n)
  | 0, _, _, h => by simpa using h
  | n + 1, [], [], _ => by simp [DenL]
  | n + 1, _ :: _, _ :: _, h => by simpa using DenL.drop n h.2
  | _ + 1, [], _ :: _, h => h.elim
  | _ + 1, _ :: _, [], h => h.elim

/-! ### Abstract states -/

inductive Ob where
  | none
  | cells (T : Nat) (c : List AV)
  deriving Inhabited

def Ob.live : Ob → Bool
  | .none => false
  | .cells _ _ => true

structure S where
  tmps : List AV
  objs : List Ob
  M : Mem

def S.get (s : S) (t : Nat) : AV := s.tmps.getD t (.v fun _ => undef)
def S.put (s : S) (d : Option Nat) (x : AV) : S :=
  match d with
  | some d => { s with tmps := s.tmps.set d x }
  | none => s
def S.ob (s : S) (i : Nat) : Ob := s.objs.getD i .none
def S.setOb (s : S) (i : Nat) (o : Ob) : S := { s with objs := s.objs.set i o }
def S.live (s : S) (i : Nat) : Bool := (s.ob i).live

structure S.WF (s : S) : Prop where
  tmps : ∀ t, (s.get t).wf s.live = true
  objs : ∀ i T c, s.ob i = .cells T c → AV.wfL s.live c = true
  len : s.objs.length = s.tmps.length

/-- What stays as it is. -/
structure Ct where
  w0 : World
  M0 : Mem
  lent : Nat → Bool

def Ct.B0 (c : Ct) : Nat := c.w0.heap.size

/-- Is what lies there frozen? -/
def frozAt (o : Option Obj) (off : Nat) : Bool :=
  match o with
  | some (.cells _ _ (lo, hi)) => lo ≤ off && off < hi
  | _ => false

theorem frozAt_z {cs : Array Value} {T : Nat} (off : Nat) : frozAt (some (.cells cs T (0, 0))) off = false := by simp [frozAt]
theorem frozAt_row {T N : Nat} {c : List Value} {o : Option Obj} (h : Frag.on (.row T N c) o) (off : Nat) : frozAt o off = false := by
  obtain ⟨r, rfl, _⟩ := h
  exact frozAt_z off
theorem frozen_at (w : World) (a : Addr) : w.frozen? a = frozAt w.heap[a.block]? a.off := rfl
theorem froz_of {w w' : World} {b : Nat} (h : ∀ k, k ≠ b → w'.heap[k]? = w.heap[k]?) (h1 : ∀ off, frozAt w'.heap[b]? off = false) (h2 : ∀ off, frozAt w.heap[b]? off = false) (a : Addr) : w'.frozen? a = w.frozen? a := by
  rw [frozen_at, frozen_at]
  by_cases e : a.block = b
  · rw [e, h1, h2]
  · rw [h _ e]
theorem froz_alloc (w : World) {o : Obj} (ho : ∀ off, frozAt (some o) off = false) (a : Addr) : (w.alloc o).frozen? a = w.frozen? a := by
  refine froz_of (b := w.heap.size) (fun k hk => ?_) (fun off => ?_) (fun off => ?_) a
  · simp only [World.alloc, Array.getElem?_push, if_neg hk]
  · simp only [World.alloc, Array.getElem?_push, if_true]; exact ho off
  · rw [Array.getElem?_eq_none (Nat.le_refl _)]; rfl

structure Fr (c : Ct) (w : World) : Prop where
  os : w.os = c.w0.os
  tape : w.tape = c.w0.tape
  output : w.output = c.w0.output
  froz : ∀ a, w.frozen? a = c.w0.frozen? a
  size : c.w0.heap.size ≤ w.heap.size
  block : ∀ b, b < c.w0.heap.size → c.lent b = false → w.heap[b]? = c.w0.heap[b]?

/-- A frame and a world that an abstract state describes. -/
structure Gam (c : Ct) (ρ : Nat → Nat) (s : S) (a : Act) (w : World) : Prop where
  tsz : a.tmps.size = s.tmps.length
  tmp : ∀ t, Den ρ (s.get t) (a.tmps.getD t undef)
  defers : a.defers = []
  mem : s.M.on w
  ob : ∀ i T l, s.ob i = .cells T l → ∃ cs : List Value, w.heap[ρ i]? = some (.cells cs.toArray T (0, 0)) ∧ DenL ρ l cs ∧ s.M (ρ i) = none ∧ c.B0 ≤ ρ i
  inj : ∀ i j, s.live i = true → s.live j = true → ρ i = ρ j → i = j
  fr : Fr c w
  new : ∀ b, s.M b ≠ none → c.M0 b ≠ none ∨ c.B0 ≤ b

end Go.SX

/- What one operation does to an abstract state, and that in a region that draws its order one order serves all. Generic over the program. -/
namespace Go.SX
open Go.RowKit (Below)

/-! ### States: small laws -/

theorem S.get_put (s : S) (d : Nat) (x : AV) (t : Nat) : (s.put (some d) x).get t = if d = t ∧ d < s.tmps.length then x else s.get t := by
  simp only [S.put, S.get, List.getD_eq_getElem?_getD, List.getElem?_set]
  by_cases h : d = t <;> by_cases h2 : d < s.tmps.length <;> simp [h, h2]
  · subst h; simp [h2]
  · subst h; simp [h2]

theorem S.get_put_ne (s : S) {d : Option Nat} (x : AV) {t : Nat} (h : d ≠ some t) : (s.put d x).get t = s.get t := by
  cases d with
  | none => rfl
  | some d => rw [S.get_put, if_neg]; rintro ⟨rfl, _⟩; exact h rfl

theorem S.ob_put (s : S) (d : Option Nat) (x : AV) (i : Nat) : (s.put d x).ob i = s.ob i := by cases d <;> rfl
theorem S.live_put (s : S) (d : Option Nat) (x : AV) : (s.put d x).live = s.live := by funext i; simp [S.live, S.ob_put]
theorem S.M_put (s : S) (d : Option Nat) (x : AV) : (s.put d x).M = s.M := by cases d <;> rfl
theorem S.objs_put (s : S) (d : Option Nat) (x : AV) : (s.put d x).objs = s.objs := by cases d <;> rfl
theorem S.len_put (s : S) (d : Option Nat) (x : AV) : (s.put d x).tmps.length = s.tmps.length := by cases d <;> simp [S.put]
theorem S.get_setOb (s : S) (i : Nat) (o : Ob) (t : Nat) : (s.setOb i o).get t = s.get t := rfl

theorem S.ob_setOb (s : S) (i : Nat) (o : Ob) (j : Nat) : (s.setOb i o).ob j = if i = j ∧ i < s.objs.length then o else s.ob j := by
  simp only [S.setOb, S.ob, List.getD_eq_getElem?_getD, List.getElem?_set]
  by_cases h : i = j <;> by_cases h2 : i < s.objs.length <;> simp [h, h2]
  · subst h; simp [h2]
  · subst h; simp [h2]

theorem S.ob_setOb_ne (s : S) {i : Nat} (o : Ob) {j : Nat} (h : i ≠ j) : (s.setOb i o).ob j = s.ob j := by
  rw [S.ob_setOb, if_neg]; rintro ⟨e, _⟩; exact h e

theorem S.ob_lt {s : S} {i T : Nat} {l : List AV} (h : s.ob i = .cells T l) : i < s.objs.length := by
  rcases Nat.lt_or_ge i s.objs.length with h' | h'
  · exact h'
  · simp [S.ob, List.getElem?_eq_none h'] at h

def S.withM (s : S) (M : Mem) : S := { s with M := M }
theorem S.put_put_comm (s : S) {d e : Option Nat} (x y : AV) (h : ∀ t, d = some t → e ≠ some t) : (s.put d x).put e y = (s.put e y).put d x := by
  cases d with
  | none => rfl
  | some d =>
    cases e with
    | none => rfl
    | some e =>
      have hne : d ≠ e := fun he => h d rfl (he ▸ rfl)
      simp [S.put, List.set_comm _ _ hne]
theorem S.put_withM (s : S) (d : Option Nat) (x : AV) (M : Mem) : (s.withM M).put d x = (s.put d x).withM M := by cases d <;> rfl
theorem S.setOb_withM (s : S) (i : Nat) (o : Ob) (M : Mem) : (s.withM M).setOb i o = (s.setOb i o).withM M := rfl
theorem S.put_setOb (s : S) (d : Option Nat) (x : AV) (i : Nat) (o : Ob) : (s.setOb i o).put d x = (s.put d x).setOb i o := by cases d <;> rfl
theorem S.get_withM (s : S) (M : Mem) (t : Nat) : (s.withM M).get t = s.get t := rfl
theorem S.ob_withM (s : S) (M : Mem) (t : Nat) : (s.withM M).ob t = s.ob t := rfl

def uav : AV := .v fun _ => undef

/-- Some local variables forgotten. -/
def S.drop (s : S) (ids : List Nat) : S := ids.foldl (fun s i => s.setOb i .none) s
theorem S.drop_put (s : S) (d : Option Nat) (x : AV) (ids : List Nat) : (s.put d x).drop ids = (s.drop ids).put d x := by
  induction ids generalizing s with
  | nil => rfl
  | cons i ids ih => simp only [S.drop, List.foldl_cons] at *; rw [← S.put_setOb, ih]
theorem S.drop_withM (s : S) (M : Mem) (ids : List Nat) : (s.withM M).drop ids = (s.drop ids).withM M := by
  induction ids generalizing s with
  | nil => rfl
  | cons i ids ih => simp only [S.drop, List.foldl_cons] at *; rw [S.setOb_withM, ih]
theorem S.drop_tmps (s : S) (ids : List Nat) : (s.drop ids).tmps = s.tmps := by
  induction ids generalizing s with
  | nil => rfl
  | cons i ids ih => simp only [S.drop, List.foldl_cons] at *; rw [ih]; rfl
theorem S.drop_M (s : S) (ids : List Nat) : (s.drop ids).M = s.M := by
  induction ids generalizing s with
  | nil => rfl
  | cons i ids ih => simp only [S.drop, List.foldl_cons] at *; rw [ih]; rfl
theorem S.ob_setOb_none (s : S) (i j : Nat) : (s.setOb i .none).ob j = if i = j then .none else s.ob j := by
  rw [S.ob_setOb]
  by_cases e : i = j
  · subst e
    by_cases h : i < s.objs.length
    · simp [h]
    · simp [h, S.ob]
  · simp [e]
theorem S.drop_ob (s : S) (ids : List Nat) (j : Nat) : (s.drop ids).ob j = if j ∈ ids then .none else s.ob j := by
  induction ids generalizing s with
  | nil => simp [S.drop]
  | cons i ids ih =>
    have := ih (s.setOb i .none)
    simp only [S.drop, List.foldl_cons] at *
    rw [this, S.ob_setOb_none]
    by_cases h1 : j ∈ ids <;> by_cases h2 : i = j <;> simp [h1, h2, eq_comm]
    intro h; exact absurd h.symm h2

theorem S.drop_live (s : S) (ids : List Nat) (i : Nat) : (s.drop ids).live i = (decide (i ∉ ids) && s.live i) := by
  unfold S.live
  rw [S.drop_ob]
  by_cases h : i ∈ ids <;> simp [h, Ob.live]
theorem S.live_of_drop {s : S} {ids : List Nat} {i : Nat} (h : (s.drop ids).live i = true) : s.live i = true := by
  rw [S.drop_live] at h; simp only [Bool.and_eq_true] at h; exact h.2

/-! ### Operands -/

def AV.ofV (x : Value) : AV :=
  match x with
  | .int k n => .int k n
  | .bool true => .tt
  | .bool false => .ff
  | .slice none 0 0 => .nils
  | x => .v fun _ => x

theorem AV.ofV_den (x : Value) (ρ : Nat → Nat) : (AV.ofV x).den ρ = x := by
  unfold AV.ofV; split <;> simp [AV.den]
theorem AV.ofV_ground (x : Value) : (AV.ofV x).ground = true := by
  unfold AV.ofV; split <;> simp [AV.ground, AV.sure, AV.wf]

def S.eval (s : S) : Operand → AV
  | .tmp t => s.get t
  | .const v => AV.ofV v
  | .global g => .el (fun _ => g) (fun _ => 0)
  | .func f => .clo (.func f) [] []

theorem S.eval_wf {s : S} (h : s.WF) (x : Operand) : (s.eval x).wf s.live = true := by
  cases x with
  | tmp t => exact h.tmps t
  | const v => exact AV.ground_wf (AV.ofV_ground v) _
  | global g => simp [S.eval, AV.wf]
  | func f => simp [S.eval, AV.wf, AV.wfL]

theorem Gam.eval {c : Ct} {ρ : Nat → Nat} {s : S} {a : Act} {w : World} (h : Gam c ρ s a w) (x : Operand) : Den ρ (s.eval x) (a.eval x) := by
  cases x with
  | tmp t => exact h.tmp t
  | const v => exact .inr (AV.ofV_den v ρ).symm
  | global g => exact .inr (by simp [S.eval, Act.eval, AV.den])
  | func f => exact .inr (by simp [S.eval, Act.eval, AV.den, AV.denL])

theorem S.eval_put_ne (s : S) {d : Option Nat} (x : AV) {y : Operand} (h : ∀ t, d = some t → y ≠ .tmp t) : (s.put d x).eval y = s.eval y := by
  cases y with
  | tmp t => exact S.get_put_ne s x (fun e => h t e rfl)
  | _ => rfl

/-! ### One operation, said of worlds -/

def gamNE (c : Ct) (s : S) : Prop := ∃ ρ a w, Gam c ρ s a w

section
variable (P : Program) (c : Ct)

/-- In a frame and a world that s describes, the operation yields what r describes, and changes nothing. -/
def Reads (o : Oper) (s : S) (r : AV) : Prop :=
  ∀ ρ a w, Gam c ρ s a w → ∃ v, (execOp a.eval o).run P w = .ok (.value v) w ∧ Den ρ r v

/-- A block that is not ours to write. -/
def Ct.old (c : Ct) (b : Nat) : Prop := b < c.B0 ∧ c.lent b = false

/-- From M and w to M' and w': what is not known is not touched; unless 'up', nothing is forgotten. -/
structure Grow (up : Bool) (M : Mem) (w : World) (M' : Mem) (w' : World) : Prop where
  le : up = false → M.le M'
  on : M'.on w'
  os : w'.os = w.os
  tape : w'.tape = w.tape
  output : w'.output = w.output
  froz : ∀ a, w'.frozen? a = w.frozen? a
  size : w.heap.size ≤ w'.heap.size
  block : ∀ b, b < w.heap.size → (M b = none ∨ c.old b) → w'.heap[b]? = w.heap[b]?
  fresh : ∀ b, M' b ≠ none → M b ≠ none ∨ w.heap.size ≤ b

/-- What an operation comes to: a value, of its own or of the function that it enters. -/
def ResV (F : Value → World → Prop) : Result Next → Prop
  | .ok (.value v) w' => F v w'
  | .ok (.enter f args) w' => Calls P f args w' fun e w'' => ∃ v, e = .returned v ∧ F v w''
  | _ => False

def Effs (up : Bool) (o : Oper) (s : S) (k : Mem → AV → Prop) : Prop :=
  ∀ ρ a w, Gam c ρ s a w → ResV P (fun v w' => ∃ M' r, v = r.val ∧ r.ground = true ∧ Grow c up s.M w M' w' ∧ k M' r) ((execOp a.eval o).run P w)

end

/-- What an operation that makes a row makes: its element's type, its length and its first cells, the value by its block's number; and under which condition. -/
structure NewI where
  T : Nat
  N : Unit → Nat
  cells : List AV
  more : Unit → List Value
  r : Nat → AV
  side : Unit → Prop

def NewI.frag (i : NewI) : Frag := .row i.T (i.N ()) (AV.denL (fun _ => 0) i.cells ++ i.more ())

/-- What the types' table says of a type. -/
structure TyI where
  size : Nat
  agg : Bool
  zero : List AV
  fields : List (Nat × Nat)
  elem : Nat
  esize : Nat
  bytes : Nat
  ik : Option IntKind

structure Md where
  det : Bool := false
  upd : Bool := false
  avoid : List Nat := []

structure Tab where
  ty : Nat → Option TyI

section
variable (P : Program) (c : Ct)

/-- How the syntax of an operation is read: what an allocation, a store and a new row come to in a state; a value that hangs on operands and local variables alone. -/
structure Info where
  alloc : Oper → S → Option (Nat × List AV)
  store : Oper → S → Option (Nat × Nat × List AV)
  new : Oper → S → Option NewI
  val : Oper → S → Option AV

inductive Kd where
  | r | e | n | f | w | bad
  deriving DecidableEq

def kd (o : Oper) : Kd :=
  match o.op with
  | .move _ | .assign _ | .pick .. | .load .. | .nilCheck _ | .binOp .. | .unOp .. | .convert .. | .makeFunc .. | .slice .. | .fieldAddr .. | .field .. | .indexAddr .. | .index .. | .extract .. | .build .. => .r
  | .alloc _ | .box .. => .f
  | .buildSlice .. | .makeSlice .. => .n
  | .store .. => .w
  | .call { callee := .builtin .len, .. } | .call { callee := .builtin .cap, .. } | .call { callee := .builtin .min, .. } | .call { callee := .builtin .max, .. } => .r
  | .call _ => .e
  | _ => .bad

end

/-- It does not look at local variables. -/
def noLoad (o : Oper) : Bool :=
  match o.op with
  | .load .. => false
  | _ => true

/-- What the reading of the syntax owes. -/
structure Info.Ok (I : Info) (P : Program) : Prop where
  alloc : ∀ {c ρ s a w o T l}, I.alloc o s = some (T, l) → Gam c ρ s a w →
    ∃ cs, DenL ρ l cs ∧ (execOp a.eval o).run P w = .ok (.value (.pointer (some ⟨w.heap.size, 0, none⟩))) (w.alloc (.cells cs.toArray T (0, 0)))
  alloc_wf : ∀ {s o T l}, I.alloc o s = some (T, l) → s.WF → AV.wfL s.live l = true
  alloc_put : ∀ {s o d x}, (∀ y ∈ o.op.operands, ∀ t, d = some t → y ≠ .tmp t) → I.alloc o (s.put d x) = I.alloc o s
  alloc_M : ∀ {s o M}, I.alloc o (s.withM M) = I.alloc o s
  alloc_ob : ∀ {s o i x}, I.alloc o (s.setOb i x) = I.alloc o s
  store : ∀ {c ρ s a w o i T l'}, I.store o s = some (i, T, l') → Gam c ρ s a w → s.live i = true ∧
    ∃ w' cs', (execOp a.eval o).run P w = .ok .skip w' ∧ DenL ρ l' cs' ∧ w' = { w with heap := w.heap.setIfInBounds (ρ i) (.cells cs'.toArray T (0, 0)) }
  store_wf : ∀ {s o i T l'}, I.store o s = some (i, T, l') → s.WF → AV.wfL s.live l' = true
  store_put : ∀ {s o d x}, (∀ y ∈ o.op.operands, ∀ t, d = some t → y ≠ .tmp t) → I.store o (s.put d x) = I.store o s
  store_M : ∀ {s o M}, I.store o (s.withM M) = I.store o s
  store_ob : ∀ {s o i T l' j x}, I.store o s = some (i, T, l') → j ≠ i → I.store o (s.setOb j x) = some (i, T, l')
  new : ∀ {c ρ s a w o i}, I.new o s = some i → i.side () → Gam c ρ s a w →
    ∃ ob, i.frag.on (some ob) ∧ (execOp a.eval o).run P w = .ok (.value (i.r w.heap.size).val) (w.alloc ob)
  new_r : ∀ {s o i}, I.new o s = some i → ∀ b, (i.r b).ground = true
  new_put : ∀ {s o d x}, (∀ y ∈ o.op.operands, ∀ t, d = some t → y ≠ .tmp t) → I.new o (s.put d x) = I.new o s
  new_M : ∀ {s o M}, I.new o (s.withM M) = I.new o s
  new_ob : ∀ {s o i x}, I.new o (s.setOb i x) = I.new o s
  val : ∀ {c o s r}, I.val o s = some r → Reads P c o s r
  val_wf : ∀ {s o r}, I.val o s = some r → s.WF → r.wf s.live = true
  val_put : ∀ {s o d x}, (∀ y ∈ o.op.operands, ∀ t, d = some t → y ≠ .tmp t) → I.val o (s.put d x) = I.val o s
  val_M : ∀ {s o M}, I.val o (s.withM M) = I.val o s
  val_ob : ∀ {s o r j x}, I.val o s = some r → s.ob j = .none → I.val o (s.setOb j x) = some r
  val_pure : ∀ {s o j x}, noLoad o = true → I.val o (s.setOb j x) = I.val o s

/-! ### The transformers -/

section
variable (P : Program) (I : Info) (c : Ct)

/-- Where there is such a frame and world, and the state is well formed. -/
def G (K : S → Prop) (s : S) : Prop := gamNE c s → s.WF → K s

def TR (m : Md) (o : Oper) (K : S → Prop) (s : S) : Prop :=
  ∃ r, r.wf (s.drop m.avoid).live = true ∧ Reads P c o (s.drop m.avoid) r ∧ (m.det = true → I.val o s = some r) ∧ G c K (s.put o.dst r)
def TE (m : Md) (o : Oper) (K : S → Prop) (s : S) : Prop := Effs P c m.upd o s fun M' r => G c K ((s.withM M').put o.dst r)
def TN (o : Oper) (K : S → Prop) (s : S) : Prop :=
  ∃ i, I.new o s = some i ∧ i.side () ∧ ∀ b, s.M b = none → c.B0 ≤ b → G c K ((s.withM (s.M.set b i.frag)).put o.dst (i.r b))
def TF (o : Oper) (K : S → Prop) (s : S) : Prop :=
  ∃ d T l, o.dst = some d ∧ I.alloc o s = some (T, l) ∧ s.ob d = .none ∧ d < s.objs.length ∧ G c K ((s.setOb d (.cells T l)).put (some d) (.ptr d 0))
/-- A store into memory that is known. -/
def Upds (o : Oper) (s : S) (M' : Mem) : Prop :=
  ∀ ρ a w, Gam c ρ s a w → ∃ w', (execOp a.eval o).run P w = .ok .skip w' ∧ Grow c true s.M w M' w'

def TW (m : Md) (o : Oper) (K : S → Prop) (s : S) : Prop :=
  (∃ M', o.dst = none ∧ m.avoid = [] ∧ Upds P c o s M' ∧ G c K (s.withM M')) ∨
  ∃ i T l', o.dst = none ∧ I.store o s = some (i, T, l') ∧ (m.avoid ≠ [] → i ∈ m.avoid) ∧ G c K (s.setOb i (.cells T l'))

def TT (m : Md) (o : Oper) (K : S → Prop) (s : S) : Prop :=
  match kd o with
  | .r => TR P I c m o K s
  | .e => TE P c m o K s
  | .n => TN I c o K s
  | .f => TF I c o K s
  | .w => TW P I c m o K s
  | .bad => False

def guardV (ops : Array Oper) (o : Oper) (s : S) : Option Bool :=
  match o.guard with
  | none => some true
  | some (j, want) =>
    match (ops[j]?).bind (·.dst) with
    | some t => match s.get t with
      | .tt => some want
      | .ff => some (!want)
      | .v x => match x () with
        | .bool _ => none
        | _ => some false
      | _ => none
    | none => none

def TG (ops : Array Oper) (m : Md) (o : Oper) (K : S → Prop) (s : S) : Prop :=
  match guardV ops o s with
  | some true => TT P I c m o K s
  | some false => G c K (s.put o.dst uav)
  | none => False

end

/-! ### They are sound -/

section
variable {P : Program} {I : Info} {c : Ct} {ρ : Nat → Nat} {s : S} {a : Act} {w : World}

theorem Act.getD_put (a : Act) (d : Nat) (v : Value) (t : Nat) : (a.put (some d) v).tmps.getD t undef = if d = t ∧ d < a.tmps.size then v else a.tmps.getD t undef := by
  simp only [Act.put, Array.getD_eq_getD_getElem?, Array.getElem?_setIfInBounds]
  by_cases h : d = t <;> by_cases h2 : d < a.tmps.size <;> simp [h, h2]
  · subst h; simp [h2]
  · subst h; simp [h2]

theorem Gam.put (h : Gam c ρ s a w) {x : AV} {v : Value} (hx : Den ρ x v) (d : Option Nat) : Gam c ρ (s.put d x) (a.put d v) w := by
  cases d with
  | none => exact h
  | some d =>
    refine ⟨by simp [Act.put, S.put, h.tsz], fun t => ?_, h.defers, h.mem, h.ob, h.inj, h.fr, h.new⟩
    rw [Act.getD_put, S.get_put, h.tsz]
    by_cases e : d = t ∧ d < s.tmps.length
    · rw [if_pos e, if_pos e]; exact hx
    · rw [if_neg e, if_neg e]; exact h.tmp t

theorem S.WF.put (h : s.WF) {x : AV} (hx : x.wf s.live = true) (d : Option Nat) : (s.put d x).WF := by
  cases d with
  | none => exact h
  | some d =>
    refine ⟨fun t => ?_, h.objs, by simpa [S.put] using h.len⟩
    show ((s.put (some d) x).get t).wf s.live = true
    rw [S.get_put]
    split
    · exact hx
    · exact h.tmps t

theorem uav_ground : uav.ground = true := rfl

theorem S.WF.withM (h : s.WF) (M : Mem) : (s.withM M).WF := ⟨h.tmps, h.objs, h.len⟩

theorem Gam.grow (h : Gam c ρ s a w) {up : Bool} {M' : Mem} {w' : World} (hg : Grow c up s.M w M' w') : Gam c ρ (s.withM M') a w' := by
  refine ⟨h.tsz, h.tmp, h.defers, hg.on, fun i T l hi => ?_, h.inj, ?_, fun b hb => ?_⟩
  rotate_left 2
  · rcases hg.fresh b hb with e | e
    · exact h.new b e
    · exact .inr (Nat.le_trans h.fr.size e)
  · obtain ⟨cs, h1, h2, h3, h4⟩ := h.ob i T l hi
    have hlt : ρ i < w.heap.size := (Array.getElem?_eq_some_iff.1 h1).1
    refine ⟨cs, by rw [hg.block _ hlt (.inl h3)]; exact h1, h2, ?_, h4⟩
    cases hm : M' (ρ i) with
    | none => exact hm
    | some f =>
      rcases hg.fresh (ρ i) (by simp [hm]) with e | e
      · exact absurd h3 e
      · omega
  · exact ⟨hg.os.trans h.fr.os, hg.tape.trans h.fr.tape, hg.output.trans h.fr.output, fun a => (hg.froz a).trans (h.fr.froz a), Nat.le_trans h.fr.size hg.size,
      fun b hb hl => by rw [hg.block b (Nat.lt_of_lt_of_le hb h.fr.size) (.inr ⟨hb, hl⟩)]; exact h.fr.block b hb hl⟩

/-- What says less. -/
structure S.Weak (s' s : S) : Prop where
  tmps : s'.tmps = s.tmps
  ob : ∀ i, s'.ob i = .none ∨ s'.ob i = s.ob i
  M : s'.M.le s.M

theorem S.Weak.drop (s : S) (ids : List Nat) : (s.drop ids).Weak s :=
  ⟨S.drop_tmps s ids, fun j => by rw [S.drop_ob]; split <;> simp, by rw [S.drop_M]; exact Mem.le_refl _⟩

theorem Gam.weak {s' : S} (h : Gam c ρ s a w) (hw : s'.Weak s) : Gam c ρ s' a w := by
  have lv : ∀ i, s'.live i = true → s.live i = true := fun i hi => by
    unfold S.live at *
    rcases hw.ob i with e | e
    · rw [e] at hi; cases hi
    · rw [e] at hi; exact hi
  refine ⟨by rw [hw.tmps]; exact h.tsz, fun t => ?_, h.defers, Mem.on_le hw.M h.mem, fun i T l hi => ?_, fun i j hi hj => h.inj i j (lv i hi) (lv j hj), h.fr, fun b hb => h.new b fun e => by
    cases hm : s'.M b with
    | none => exact hb hm
    | some f => obtain ⟨g, hg, _⟩ := hw.M b f hm; rw [e] at hg; cases hg⟩
  · have : s'.get t = s.get t := by simp only [S.get, hw.tmps]
    rw [this]; exact h.tmp t
  · rcases hw.ob i with e | e
    · rw [e] at hi; cases hi
    · rw [e] at hi
      obtain ⟨cs, h1, h2, h3, h4⟩ := h.ob i T l hi
      refine ⟨cs, h1, h2, ?_, h4⟩
      cases hm : s'.M (ρ i) with
      | none => rfl
      | some f => obtain ⟨g, hg, _⟩ := hw.M _ f hm; rw [h3] at hg; cases hg

theorem Gam.unput {d : Option Nat} {x : AV} (h : Gam c ρ (s.put d x) a w) : ∃ v, Gam c ρ s (a.put d v) w := by
  cases d with
  | none => exact ⟨undef, h⟩
  | some d =>
    refine ⟨(s.get d).den ρ, ?_⟩
    have h1 := h.put (x := s.get d) (v := (s.get d).den ρ) (.inr rfl) (some d)
    have e : (s.put (some d) x).put (some d) (s.get d) = s := by
      simp only [S.put, List.set_set]
      have : s.tmps.set d (s.get d) = s.tmps := by
        apply List.ext_getElem? fun i => ?_
        rw [List.getElem?_set]
        split
        · rename_i e; subst e
          split
          · rename_i hl; simp [S.get, List.getElem?_eq_getElem hl]
          · rename_i hl; rw [List.getElem?_eq_none (by omega)]
        · rfl
      rw [this]
    rwa [e] at h1

theorem Gam.fresh (h : Gam c ρ s a w) : s.M w.heap.size = none := by
  cases hm : s.M w.heap.size with
  | none => rfl
  | some f =>
    have := h.mem _ f hm
    cases f with
    | obj o => simp [Frag.on] at this
    | row T N k => obtain ⟨r, h1, _⟩ := this; simp at h1

theorem heap_alloc_lt (w : World) (o : Obj) {k : Nat} (h : k < w.heap.size) : (w.alloc o).heap[k]? = w.heap[k]? := Go.RowKit.Below.heap_alloc w o k h
theorem heap_alloc_self (w : World) (o : Obj) : (w.alloc o).heap[w.heap.size]? = some o := by show (w.heap.push o)[w.heap.size]? = some o; simp

theorem Mem.on_alloc {M : Mem} (h : M.on w) (o : Obj) : M.on (w.alloc o) := by
  intro b f hf
  have h1 := h b f hf
  have hlt : b < w.heap.size := by
    rcases Nat.lt_or_ge b w.heap.size with h' | h'
    · exact h'
    · rw [Array.getElem?_eq_none h'] at h1
      cases f with
      | obj o => simp [Frag.on] at h1
      | row T N k => obtain ⟨r, h2, _⟩ := h1; cases h2
  rw [heap_alloc_lt _ _ hlt]; exact h1

theorem Grow.alloc (hm : s.M.on w) (hf : s.M w.heap.size = none) {f : Frag} {o : Obj} (ho : f.on (some o)) (hz : ∀ off, frozAt (some o) off = false) : Grow c false s.M w (s.M.set w.heap.size f) (w.alloc o) := by
  refine ⟨fun _ => Mem.le_set hf, Mem.on_set (Mem.on_alloc hm o) (by rw [heap_alloc_self]; exact ho), rfl, rfl, rfl, froz_alloc w hz, by simp, fun b hb _ => heap_alloc_lt _ _ hb, fun b hb => ?_⟩
  unfold Mem.set at hb
  by_cases e : b = w.heap.size
  · exact .inr (by omega)
  · rw [if_neg e] at hb; exact .inl hb

theorem Gam.alloc (h : Gam c ρ s a w) (hwf : s.WF) {d T : Nat} {l : List AV} {cs : List Value} (hd : s.ob d = .none) (hlt : d < s.objs.length) (hl : DenL ρ l cs) (hlw : AV.wfL s.live l = true) :
    Gam c (fun i => if i = d then w.heap.size else ρ i) ((s.setOb d (.cells T l)).put (some d) (.ptr d 0)) (a.put (some d) (.pointer (some ⟨w.heap.size, 0, none⟩))) (w.alloc (.cells cs.toArray T (0, 0))) := by
  have hnl : ∀ i, s.live i = true → i ≠ d := fun i hi e => by subst e; simp [S.live, hd, Ob.live] at hi
  have hcg : ∀ i, s.live i = true → ρ i = (fun i => if i = d then w.heap.size else ρ i) i := fun i hi => by simp [hnl i hi]
  have h1 : Gam c (fun i => if i = d then w.heap.size else ρ i) (s.setOb d (.cells T l)) a (w.alloc (.cells cs.toArray T (0, 0))) := by
    refine ⟨h.tsz, fun t => Den.congr hcg (hwf.tmps t) (h.tmp t), h.defers, Mem.on_alloc h.mem _, fun i T' l' hi => ?_, fun i j hi hj e => ?_, ?_, h.new⟩
    · rw [S.ob_setOb] at hi
      by_cases e : d = i ∧ d < s.objs.length
      · rw [if_pos e] at hi
        obtain ⟨rfl, _⟩ := e
        cases hi
        refine ⟨cs, by simp only [if_true]; exact heap_alloc_self _ _, DenL.congr hcg hlw hl, ?_, ?_⟩
        · simp only [if_true]; exact h.fresh
        · simpa [Ct.B0] using h.fr.size
      · rw [if_neg e] at hi
        have hne : i ≠ d := fun e' => e ⟨e'.symm, hlt⟩
        obtain ⟨cs', k1, k2, k3, k4⟩ := h.ob i T' l' hi
        have : ρ i < w.heap.size := (Array.getElem?_eq_some_iff.1 k1).1
        refine ⟨cs', ?_, DenL.congr hcg (hwf.objs i T' l' hi) k2, ?_, ?_⟩
        · simp only [if_neg hne]; rw [heap_alloc_lt _ _ this]; exact k1
        · simp only [if_neg hne]; exact k3
        · simp only [if_neg hne]; exact k4
    · have lv : ∀ i, (s.setOb d (.cells T l)).live i = true → i ≠ d → s.live i = true := fun i hi hne => by
        simpa [S.live, S.ob_setOb_ne s _ (Ne.symm hne)] using hi
      have lt : ∀ i, s.live i = true → ρ i < w.heap.size := fun i hi => by
        unfold S.live at hi
        cases ho : s.ob i with
        | none => rw [ho] at hi; cases hi
        | cells T' l' => obtain ⟨cs', k1, _⟩ := h.ob i T' l' ho; exact (Array.getElem?_eq_some_iff.1 k1).1
      by_cases ei : i = d <;> by_cases ej : j = d
      · rw [ei, ej]
      · exfalso; simp only [ei, ej, if_true, if_false] at e; have := lt j (lv j hj ej); omega
      · exfalso; simp only [ei, ej, if_true, if_false] at e; have := lt i (lv i hi ei); omega
      · simp only [ei, ej, if_false] at e; exact h.inj i j (lv i hi ei) (lv j hj ej) e
    · exact ⟨h.fr.os, h.fr.tape, h.fr.output, fun a => (froz_alloc w (frozAt_z) a).trans (h.fr.froz a), by have := h.fr.size; simp; omega, fun b hb hl => by rw [heap_alloc_lt _ _ (Nat.lt_of_lt_of_le hb h.fr.size)]; exact h.fr.block b hb hl⟩
  exact h1.put (.inr (by simp [AV.den])) _

theorem S.WF.alloc (hwf : s.WF) {d T : Nat} {l : List AV} (hlt : d < s.objs.length) (hlw : AV.wfL s.live l = true) :
    ((s.setOb d (.cells T l)).put (some d) (.ptr d 0)).WF := by
  have hm : ∀ i, s.live i = true → (s.setOb d (.cells T l)).live i = true := fun i hi => by
    unfold S.live at *
    rw [S.ob_setOb]
    split
    · rfl
    · exact hi
  have : (s.setOb d (.cells T l)).WF := by
    refine ⟨fun t => AV.wf_mono hm _ (hwf.tmps t), fun i T' l' hi => ?_, by simpa [S.setOb] using hwf.len⟩
    rw [S.ob_setOb] at hi
    split at hi
    · cases hi; exact AV.wfL_mono hm _ hlw
    · exact AV.wfL_mono hm _ (hwf.objs i T' l' hi)
  refine this.put ?_ _
  simp [AV.wf, S.live, S.ob_setOb, hlt, Ob.live]

theorem Gam.store (h : Gam c ρ s a w) {i T : Nat} {l' : List AV} {cs' : List Value} (hi : s.live i = true) (hl : DenL ρ l' cs') :
    Gam c ρ (s.setOb i (.cells T l')) a { w with heap := w.heap.setIfInBounds (ρ i) (.cells cs'.toArray T (0, 0)) } := by
  have lt : ∀ j, s.live j = true → ρ j < w.heap.size ∧ s.M (ρ j) = none ∧ c.B0 ≤ ρ j := fun j hj => by
    unfold S.live at hj
    cases ho : s.ob j with
    | none => rw [ho] at hj; cases hj
    | cells T' l' => obtain ⟨cs', k1, _, k3, k4⟩ := h.ob j T' l' ho; exact ⟨(Array.getElem?_eq_some_iff.1 k1).1, k3, k4⟩
  obtain ⟨hlt, hM, hB⟩ := lt i hi
  have lv : ∀ j, (s.setOb i (.cells T l')).live j = true → s.live j = true := fun j hj => by
    by_cases e : i = j
    · subst e; exact hi
    · simpa [S.live, S.ob_setOb_ne s _ e] using hj
  refine ⟨h.tsz, h.tmp, h.defers, fun b f hb => ?_, fun j T' k hj => ?_, fun j j' hj hj' e => h.inj j j' (lv j hj) (lv j' hj') e, ?_, h.new⟩
  · have hne : ρ i ≠ b := fun e => by subst e; have hb' : s.M (ρ i) = some f := hb; rw [hM] at hb'; cases hb'
    rw [Array.getElem?_setIfInBounds_ne hne]
    exact h.mem b f hb
  · rw [S.ob_setOb] at hj
    by_cases e : i = j ∧ i < s.objs.length
    · rw [if_pos e] at hj
      obtain ⟨rfl, _⟩ := e
      cases hj
      exact ⟨cs', by simp [hlt], hl, hM, hB⟩
    · rw [if_neg e] at hj
      obtain ⟨k', k1, k2, k3, k4⟩ := h.ob j T' k hj
      have hij : i ≠ j := fun e' => e ⟨e', by
        subst e'; exact S.ob_lt hj⟩
      have hne : ρ i ≠ ρ j := fun e' => hij (h.inj i j hi (by simp [S.live, hj, Ob.live]) e')
      exact ⟨k', by rw [Array.getElem?_setIfInBounds_ne hne]; exact k1, k2, k3, k4⟩
  · refine ⟨h.fr.os, h.fr.tape, h.fr.output, fun a => ?_, by simpa using h.fr.size, fun b hb hl => ?_⟩
    · refine (froz_of (b := ρ i) (fun k hk => Array.getElem?_setIfInBounds_ne (Ne.symm hk)) (fun off => ?_) (fun off => ?_) a).trans (h.fr.froz a)
      · simp only [Array.getElem?_setIfInBounds_self_of_lt hlt]; exact frozAt_z off
      · unfold S.live at hi
        cases ho : s.ob i with
        | none => rw [ho] at hi; cases hi
        | cells T' l => obtain ⟨cs, k1, _⟩ := h.ob i T' l ho; rw [k1]; exact frozAt_z off
    have hne : ρ i ≠ b := fun e => by
      subst e
      unfold Ct.B0 at hB; omega
    rw [Array.getElem?_setIfInBounds_ne hne]
    exact h.fr.block b hb hl

theorem S.WF.store (hwf : s.WF) {i T : Nat} {l' : List AV} (hl : AV.wfL s.live l' = true) : (s.setOb i (.cells T l')).WF := by
  have hm : ∀ j, s.live j = true → (s.setOb i (.cells T l')).live j = true := fun j hj => by
    unfold S.live at *
    rw [S.ob_setOb]
    split
    · rfl
    · exact hj
  refine ⟨fun t => AV.wf_mono hm _ (hwf.tmps t), fun j T' k hj => ?_, by simpa [S.setOb] using hwf.len⟩
  rw [S.ob_setOb] at hj
  split at hj
  · cases hj; exact AV.wfL_mono hm _ hl
  · exact AV.wfL_mono hm _ (hwf.objs j T' k hj)

/-- What an abstract step has come to. -/
def Went (c : Ct) (K : S → Prop) (a : Act) (w : World) : Prop := ∃ ρ s, s.WF ∧ Gam c ρ s a w ∧ K s

theorem Went.of_G {K : S → Prop} (hg : Gam c ρ s a w) (hw : s.WF) (h : G c K s) : Went c K a w := ⟨ρ, s, hw, hg, h ⟨ρ, a, w, hg⟩ hw⟩

theorem ResV.upon {o : Oper} {F : Value → World → Prop} {K : Act → World → Prop} {Q : Exit → Act → World → Prop} {res : Result Next} (h : ResV P F res) (hF : ∀ v w', F v w' → K (a.put o.dst v) w') :
    o.upon P a K Q res := by
  cases res with
  | ok n w' =>
    cases n <;> simp only [ResV] at h <;> simp only [Oper.upon] <;>
      first
        | exact hF _ _ h
        | exact h.elim
        | (refine Calls.mono h fun e w'' he => ?_
           obtain ⟨v, rfl, hf⟩ := he
           exact hF _ _ hf)
  | halt x w' => simp only [ResV] at h

theorem ResV.mono {F F' : Value → World → Prop} {res : Result Next} (h : ResV P F res) (hF : ∀ v w', F v w' → F' v w') : ResV P F' res := by
  cases res with
  | ok n w' =>
    cases n <;> simp only [ResV] at h ⊢ <;>
      first
        | exact hF _ _ h
        | exact Calls.mono h fun e w'' ⟨v, hv, hf⟩ => ⟨v, hv, hF _ _ hf⟩
  | halt x w' => simp only [ResV] at h

theorem ResV.exists {F : Value → World → Prop} {res : Result Next} (h : ResV P F res) : ∃ v w', F v w' := by
  cases res with
  | ok n w' =>
    cases n <;> simp only [ResV] at h <;>
      first
        | exact ⟨_, _, h⟩
        | (obtain ⟨e, w'', fr, ⟨v, _, hf⟩, _⟩ := h []; exact ⟨_, _, hf⟩)
  | halt x w' => simp only [ResV] at h

theorem TT.sound (hI : I.Ok P) {m : Md} {o : Oper} {K : S → Prop} {Q : Exit → Act → World → Prop} (hg : Gam c ρ s a w) (hw : s.WF) (h : TT P I c m o K s) : o.wp P a w (Went c K) Q := by
  unfold TT at h
  cases hk : kd o <;> simp only [hk] at h
  · obtain ⟨r, hr, hrd, _, hK⟩ := h
    obtain ⟨v, hrun, hden⟩ := hrd ρ a w (hg.weak (S.Weak.drop s m.avoid))
    simp only [Oper.wp, hrun, Oper.upon]
    exact Went.of_G (hg.put hden _) (hw.put (AV.wf_mono (fun _ => S.live_of_drop) _ hr) _) hK
  · have h1 := h ρ a w hg
    unfold Oper.wp
    have fin : ∀ (v : Value) (w' : World), (∃ M' r, v = r.val ∧ r.ground = true ∧ Grow c m.upd s.M w M' w' ∧ G c K ((s.withM M').put o.dst r)) → Went c K (a.put o.dst v) w' := by
      rintro v w' ⟨M', r, rfl, hr, hgr, hK⟩
      exact Went.of_G ((hg.grow hgr).put (Den.of_ground hr ρ) _) ((hw.withM M').put (AV.ground_wf hr _) _) hK
    exact ResV.upon h1 fin
  · obtain ⟨i, hi, hs, hK⟩ := h
    obtain ⟨ob, hob, hrun⟩ := hI.new hi hs hg
    simp only [Oper.wp, hrun, Oper.upon]
    exact Went.of_G ((hg.grow (Grow.alloc hg.mem hg.fresh hob (frozAt_row hob))).put (Den.of_ground (hI.new_r hi _) ρ) _) ((hw.withM _).put (AV.ground_wf (hI.new_r hi _) _) _)
      (hK _ hg.fresh (by simpa [Ct.B0] using hg.fr.size))
  · obtain ⟨d, T, l, hd, hal, hob, hlt, hK⟩ := h
    obtain ⟨cs, hl, hrun⟩ := hI.alloc hal hg
    simp only [Oper.wp, hrun, Oper.upon, hd]
    exact Went.of_G (hg.alloc hw hob hlt hl (hI.alloc_wf hal hw)) (hw.alloc hlt (hI.alloc_wf hal hw)) hK
  · rcases h with ⟨M', hd, _, hup, hK⟩ | ⟨i, T, l', hd, hst, _, hK⟩
    · obtain ⟨w', hrun, hgr⟩ := hup ρ a w hg
      simp only [Oper.wp, hrun, Oper.upon, hd]
      exact Went.of_G (hg.grow hgr) (hw.withM M') hK
    obtain ⟨hlv, w', cs', hrun, hl, rfl⟩ := hI.store hst hg
    simp only [Oper.wp, hrun, Oper.upon, hd]
    exact Went.of_G (hg.store hlv hl) (hw.store (hI.store_wf hst hw)) hK

theorem guard_sound {ops : Array Oper} {o : Oper} {x : Bool} (hg : Gam c ρ s a w) (h : guardV ops o s = some x) : Region.wanted o (yielded ops a.tmps) = x := by
  unfold guardV at h
  unfold Region.wanted
  cases hgd : o.guard with
  | none => rw [hgd] at h; simp at h; simp [← h]
  | some p =>
    obtain ⟨j, want⟩ := p
    simp only [hgd] at h ⊢
    unfold yielded
    cases ht : (ops[j]?).bind (·.dst) with
    | none => simp [ht] at h
    | some t =>
      simp only [ht] at h
      have hd := hg.tmp t
      have key : ∀ y : Bool, Den ρ (if y then AV.tt else AV.ff) (a.tmps.getD t undef) → a.tmps[t]? = some (.bool y) := fun y hy => by
        have e : a.tmps.getD t undef = .bool y := by
          cases y <;> simpa [Den, AV.den] using hy
        rw [Array.getD_eq_getD_getElem?] at e
        cases hx : a.tmps[t]? with
        | none => simp [hx, undef] at e
        | some v => simp [hx] at e; rw [e]
      cases hs : s.get t <;> rw [hs] at h hd <;> simp at h
      · rename_i v
        have e : a.tmps.getD t undef = v () := by simpa [Den, AV.den] using hd
        rw [Array.getD_eq_getD_getElem?] at e
        cases hx : a.tmps[t]? with
        | none =>
          split at h
          · cases h
          · cases h; simp [hx]
        | some z =>
          rw [hx] at e
          simp only [Option.getD_some] at e
          rw [← e] at h
          cases z <;> simp at h <;> (subst h; simp [hx])
      · subst h; have := key true hd; simp [this]
      · subst h; have := key false hd; simp [this]

theorem TG.sound (hI : I.Ok P) {ops : Array Oper} {m : Md} {i : Nat} {o : Oper} (ho : ops[i]? = some o) {K : S → Prop} {Q : Exit → Act → World → Prop} (hg : Gam c ρ s a w) (hw : s.WF)
    (h : TG P I c ops m o K s) : wpOp P ops Q i (Went c K) a w := by
  unfold TG at h
  unfold wpOp
  simp only [ho]
  cases hgv : guardV ops o s with
  | none => rw [hgv] at h; exact h.elim
  | some x =>
    rw [hgv] at h
    rw [guard_sound hg hgv]
    cases x with
    | true => exact .inl (TT.sound hI hg hw h)
    | false =>
      simp only [Bool.false_eq_true, if_false]
      have : uav.val = undef := rfl
      exact Went.of_G (hg.put (.inr rfl) _) (hw.put (AV.ground_wf uav_ground _) _) h

end
end Go.SX

/- In a region that draws its order one order serves all: which operations may change places. -/
namespace Go.SX

section
variable {P : Program} {I : Info} {c : Ct} {ops : Array Oper}

/-- The three ways in which two operations keep off each other's temporaries. -/
structure Apart (ops : Array Oper) (x y : Oper) : Prop where
  a : ∀ d, x.dst = some d → d ∉ y.looksAt ops
  b : ∀ d, x.dst = some d → y.dst ≠ some d
  c : ∀ d, y.dst = some d → d ∉ x.looksAt ops

theorem Apart.of {x y : Oper} (h : x.apart ops y = true) : Apart ops x y := ⟨(Oper.apart_spec h).1, (Oper.apart_spec h).2.1, (Oper.apart_spec h).2.2⟩

theorem looks_op {o : Oper} {d : Option Nat} (h : ∀ t, d = some t → t ∉ o.looksAt ops) : ∀ y ∈ o.op.operands, ∀ t, d = some t → y ≠ .tmp t := by
  intro y hy t ht e
  subst e
  exact h t ht (List.mem_append_left _ (List.mem_filterMap.2 ⟨.tmp t, by simpa using hy, rfl⟩))

theorem guardV_put {o : Oper} {s : S} {d : Option Nat} {x : AV} (h : ∀ t, d = some t → t ∉ o.looksAt ops) : guardV ops o (s.put d x) = guardV ops o s := by
  unfold guardV
  cases hg : o.guard with
  | none => rfl
  | some p =>
    obtain ⟨j, want⟩ := p
    simp only
    cases ht : (ops[j]?).bind (·.dst) with
    | none => rfl
    | some t =>
      simp only
      rw [S.get_put_ne]
      intro e
      exact h t e (by simp [Oper.looksAt, hg, ht])

theorem Gam.ne {ρ : Nat → Nat} {s : S} {a : Act} {w : World} (h : Gam c ρ s a w) : gamNE c s := ⟨ρ, a, w, h⟩
theorem gamNE.put {s : S} (h : gamNE c s) (d : Option Nat) (x : AV) : gamNE c (s.put d x) := let ⟨ρ, _, w, hg⟩ := h; ⟨ρ, _, w, hg.put (.inr rfl) d⟩
theorem gamNE.unput {s : S} {d : Option Nat} {x : AV} (h : gamNE c (s.put d x)) : gamNE c s := let ⟨ρ, _, w, hg⟩ := h; let ⟨_, hg'⟩ := hg.unput; ⟨ρ, _, w, hg'⟩
theorem gamNE.weak {s s' : S} (h : gamNE c s) (hw : s'.Weak s) : gamNE c s' := let ⟨ρ, a, w, hg⟩ := h; ⟨ρ, a, w, hg.weak hw⟩
theorem S.Weak.withM {s : S} {M : Mem} (h : s.M.le M) : s.Weak (s.withM M) := ⟨rfl, fun _ => .inr rfl, h⟩
theorem S.Weak.setOb {s : S} {d : Nat} (x : Ob) (h : s.ob d = .none) : s.Weak (s.setOb d x) := by
  refine ⟨rfl, fun i => ?_, Mem.le_refl _⟩
  by_cases e : d = i
  · subst e; exact .inl h
  · exact .inr (S.ob_setOb_ne s x e).symm


theorem execOp_put' {o : Oper} (hs : ∀ cs b, o.op ≠ .select cs b) (a : Act) {d : Option Nat} (v : Value) (h : ∀ t, d = some t → t ∉ o.looksAt ops) :
    execOp (a.put d v).eval o = execOp a.eval o := execOp_put o hs a d v h

theorem Reads.put {o : Oper} (hs : ∀ cs b, o.op ≠ .select cs b) {d : Option Nat} (hd : ∀ t, d = some t → t ∉ o.looksAt ops) {s : S} {x r : AV} : Reads P c o (s.put d x) r ↔ Reads P c o s r := by
  constructor
  · intro h ρ a w hg
    have := h ρ (a.put d (x.den ρ)) w (hg.put (.inr rfl) d)
    rwa [execOp_put' hs a _ hd] at this
  · intro h ρ a w hg
    obtain ⟨v, hg'⟩ := hg.unput
    have := h ρ _ w hg'
    rwa [execOp_put' hs a _ hd] at this

theorem Reads.weak {o : Oper} {s s' : S} {r : AV} (h : Reads P c o s' r) (hw : s'.Weak s) : Reads P c o s r := fun ρ a w hg => h ρ a w (hg.weak hw)

theorem Effs.put {o : Oper} (hs : ∀ cs b, o.op ≠ .select cs b) {d : Option Nat} (hd : ∀ t, d = some t → t ∉ o.looksAt ops) {s : S} {x : AV} {up : Bool} {k : Mem → AV → Prop} : Effs P c up o (s.put d x) k ↔ Effs P c up o s k := by
  constructor
  · intro h ρ a w hg
    have := h ρ (a.put d (x.den ρ)) w (hg.put (.inr rfl) d)
    rwa [execOp_put' hs a _ hd, S.M_put] at this
  · intro h ρ a w hg
    obtain ⟨v, hg'⟩ := hg.unput
    have := h ρ _ w hg'
    rw [S.M_put]
    rwa [execOp_put' hs a _ hd] at this

theorem Effs.mono {up : Bool} {o : Oper} {s : S} {k k' : Mem → AV → Prop} (h : Effs P c up o s k)
    (hk : ∀ M' r ρ a w w', Gam c ρ s a w → Grow c up s.M w M' w' → r.ground = true → k M' r → k' M' r) : Effs P c up o s k' := fun ρ a w hg =>
  (h ρ a w hg).mono fun _ _ ⟨M', r, hv, hr, hgr, hk'⟩ => ⟨M', r, hv, hr, hgr, hk M' r ρ a w _ hg hgr hr hk'⟩

theorem Upds.put {o : Oper} (hs : ∀ cs b, o.op ≠ .select cs b) {d : Option Nat} (hd : ∀ t, d = some t → t ∉ o.looksAt ops) {s : S} {x : AV} {M' : Mem} : Upds P c o (s.put d x) M' ↔ Upds P c o s M' := by
  constructor
  · intro h ρ a w hg
    have := h ρ (a.put d (x.den ρ)) w (hg.put (.inr rfl) d)
    rwa [execOp_put' hs a _ hd, S.M_put] at this
  · intro h ρ a w hg
    obtain ⟨v, hg'⟩ := hg.unput
    have := h ρ _ w hg'
    rw [S.M_put]
    rwa [execOp_put' hs a _ hd] at this

theorem S.WF.alloc' {s : S} (hI : I.Ok P) (hwf : s.WF) {o : Oper} {d T : Nat} {l : List AV} (hal : I.alloc o s = some (T, l)) (hlt : d < s.objs.length) : ((s.setOb d (.cells T l)).put (some d) (.ptr d 0)).WF :=
  hwf.alloc hlt (hI.alloc_wf hal hwf)

theorem gamNE.alloc {s : S} (hI : I.Ok P) (h : gamNE c s) (hwf : s.WF) {o : Oper} {d T : Nat} {l : List AV} (hal : I.alloc o s = some (T, l)) (hd : s.ob d = .none) (hlt : d < s.objs.length) :
    gamNE c ((s.setOb d (.cells T l)).put (some d) (.ptr d 0)) := by
  obtain ⟨ρ, a, w, hg⟩ := h
  obtain ⟨cs, hl, _⟩ := hI.alloc hal hg
  exact ⟨_, _, _, hg.alloc hwf hd hlt hl (hI.alloc_wf hal hwf)⟩

theorem gamNE.store {s : S} (hI : I.Ok P) (h : gamNE c s) {o : Oper} {i T : Nat} {l' : List AV} (hst : I.store o s = some (i, T, l')) : gamNE c (s.setOb i (.cells T l')) := by
  obtain ⟨ρ, a, w, hg⟩ := h
  obtain ⟨hlv, w', cs', _, hl, rfl⟩ := hI.store hst hg
  exact ⟨_, _, _, hg.store hlv hl⟩

theorem Info.Ok.store_live (hI : I.Ok P) {s : S} (h : gamNE c s) {o : Oper} {i T : Nat} {l' : List AV} (hst : I.store o s = some (i, T, l')) : s.live i = true := by
  obtain ⟨ρ, a, w, hg⟩ := h
  exact (hI.store hst hg).1

/-- How a write to a temporary at which an operation does not look goes past it. -/
theorem TT.push (hI : I.Ok P) {m : Md} {o : Oper} (hs : ∀ cs b, o.op ≠ .select cs b) {d : Option Nat} {x : AV} (h1 : ∀ t, d = some t → t ∉ o.looksAt ops) (h2 : ∀ t, d = some t → o.dst ≠ some t)
    {K : S → Prop} {s : S} (hw : s.WF) : TT P I c m o K (s.put d x) ↔ TT P I c m o (fun s' => G c K (s'.put d x)) s := by
  have hop := looks_op h1
  have hcm : ∀ (s' : S) (y : AV), (s'.put o.dst y).put d x = (s'.put d x).put o.dst y := fun s' y => (S.put_put_comm s' x y h2).symm
  unfold TT
  cases hk : kd o <;> simp only
  · constructor
    · rintro ⟨r, hr, hrd, hdet, hK⟩
      refine ⟨r, by simpa [S.drop_put, S.live_put] using hr, ?_, fun e => by rw [← hI.val_put hop]; exact hdet e, ?_⟩
      · rw [S.drop_put] at hrd; exact (Reads.put hs h1).1 hrd
      · intro _ _
        rw [hcm]; exact hK
    · rintro ⟨r, hr, hrd, hdet, hK⟩
      refine ⟨r, by simpa [S.drop_put, S.live_put] using hr, ?_, fun e => by rw [hI.val_put hop]; exact hdet e, ?_⟩
      · rw [S.drop_put]; exact (Reads.put hs h1).2 hrd
      · intro hne hwf
        have h0 : gamNE c (s.put o.dst r) := by rw [← hcm] at hne; exact hne.unput
        have := hK h0 (hw.put (AV.wf_mono (fun _ => S.live_of_drop) _ hr) _)
        dsimp only at this
        rw [hcm] at this
        exact this hne hwf
  · unfold TE
    rw [Effs.put hs h1]
    constructor
    · intro h
      refine h.mono fun M' r ρ a w w' hg hgr hr hk' => ?_
      intro _ _
      rw [hcm]
      have : (s.put d x).withM M' = (s.withM M').put d x := (S.put_withM s d x M').symm
      rw [this] at hk'
      exact hk'
    · intro h
      refine h.mono fun M' r ρ a w w' hg hgr hr hk' => ?_
      have h0 := hk' ⟨_, _, _, (hg.grow hgr).put (Den.of_ground hr ρ) _⟩ ((hw.withM M').put (AV.ground_wf hr _) _)
      dsimp only at h0
      rw [hcm] at h0
      have : (s.put d x).withM M' = (s.withM M').put d x := (S.put_withM s d x M').symm
      rw [this]
      exact h0
  · unfold TN
    rw [hI.new_put hop, S.M_put]
    constructor
    · rintro ⟨i, hi, hsd, hK⟩
      refine ⟨i, hi, hsd, fun b hb hB => ?_⟩
      intro _ _
      rw [hcm]
      have := hK b hb hB
      have e : (s.put d x).withM (s.M.set b i.frag) = (s.withM (s.M.set b i.frag)).put d x := (S.put_withM s d x _).symm
      rwa [e] at this
    · rintro ⟨i, hi, hsd, hK⟩
      refine ⟨i, hi, hsd, fun b hb hB => ?_⟩
      have e : (s.put d x).withM (s.M.set b i.frag) = (s.withM (s.M.set b i.frag)).put d x := (S.put_withM s d x _).symm
      rw [e]
      intro hne hwf
      have h0 : gamNE c ((s.withM (s.M.set b i.frag)).put o.dst (i.r b)) := by rw [← hcm] at hne; exact hne.unput
      have := hK b hb hB h0 ((hw.withM _).put (AV.ground_wf (hI.new_r hi b) _) _)
      dsimp only at this
      rw [hcm] at this
      exact this hne hwf
  · unfold TF
    rw [hI.alloc_put hop]
    constructor
    · rintro ⟨e, T, l, he, hal, hob, hlt, hK⟩
      rw [S.ob_put] at hob
      rw [S.objs_put] at hlt
      refine ⟨e, T, l, he, hal, hob, hlt, ?_⟩
      intro _ _
      rw [← he, hcm, S.put_setOb, he]; exact hK
    · rintro ⟨e, T, l, he, hal, hob, hlt, hK⟩
      refine ⟨e, T, l, he, hal, by rw [S.ob_put]; exact hob, by rw [S.objs_put]; exact hlt, ?_⟩
      intro hne hwf
      have eq : ((s.put d x).setOb e (.cells T l)).put (some e) (.ptr e 0) = ((s.setOb e (.cells T l)).put (some e) (.ptr e 0)).put d x := by
        rw [← S.put_setOb, ← he, hcm]
      rw [eq] at hne hwf ⊢
      exact hK hne.unput (hw.alloc' hI hal hlt) hne hwf
  · unfold TW
    rw [hI.store_put hop]
    constructor
    · rintro (⟨M', he, hsp, hup, hK⟩ | ⟨i, T, l', he, hst, hav, hK⟩)
      · refine .inl ⟨M', he, hsp, (Upds.put hs h1).1 hup, fun _ _ => ?_⟩
        dsimp only
        rw [S.put_withM]
        exact hK
      refine .inr ⟨i, T, l', he, hst, hav, ?_⟩
      intro _ _
      rw [S.put_setOb]; exact hK
    · rintro (⟨M', he, hsp, hup, hK⟩ | ⟨i, T, l', he, hst, hav, hK⟩)
      · refine .inl ⟨M', he, hsp, (Upds.put hs h1).2 hup, fun hne hwf => ?_⟩
        rw [← S.put_withM] at hne hwf ⊢
        exact hK hne.unput (hw.withM M') hne hwf
      refine .inr ⟨i, T, l', he, hst, hav, ?_⟩
      intro hne hwf
      have eq : (s.put d x).setOb i (.cells T l') = (s.setOb i (.cells T l')).put d x := (S.put_setOb ..).symm
      rw [eq] at hne hwf ⊢
      exact hK hne.unput (hw.store (hI.store_wf hst hw)) hne hwf

theorem G.mono {K K' : S → Prop} {s : S} (h : gamNE c s → s.WF → K s → K' s) (hk : G c K s) : G c K' s := fun a b => h a b (hk a b)

/-- What is as it was behind an operation. -/
structure Kept (o : Oper) (s s' : S) : Prop where
  get : ∀ t, o.dst ≠ some t → s'.get t = s.get t
  live : ∀ i, s.live i = true → s'.live i = true

theorem Kept.guard {o o' : Oper} {s s' : S} (h : Kept o s s') (hd : ∀ t, o.dst = some t → t ∉ o'.looksAt ops) : guardV ops o' s' = guardV ops o' s := by
  unfold guardV
  cases hg : o'.guard with
  | none => rfl
  | some p =>
    obtain ⟨j, want⟩ := p
    simp only
    cases ht : (ops[j]?).bind (·.dst) with
    | none => rfl
    | some t =>
      simp only
      rw [h.get t fun e => hd t e (by simp [Oper.looksAt, hg, ht])]

theorem Kept.put (o : Oper) (s : S) (x : AV) : Kept o s (s.put o.dst x) := ⟨fun _ h => S.get_put_ne s x h, fun _ h => by rw [S.live_put]; exact h⟩
theorem Kept.trans {o : Oper} {s s' s'' : S} (h : Kept o s s') (h' : Kept o s' s'') : Kept o s s'' := ⟨fun t e => (h'.get t e).trans (h.get t e), fun i e => h'.live i (h.live i e)⟩
theorem Kept.withM (o : Oper) (s : S) (M : Mem) : Kept o s (s.withM M) := ⟨fun _ _ => rfl, fun _ h => h⟩
theorem Kept.setOb (o : Oper) (s : S) (i T : Nat) (l : List AV) : Kept o s (s.setOb i (.cells T l)) := ⟨fun _ _ => rfl, fun j h => by
  unfold S.live at *
  rw [S.ob_setOb]
  split
  · rfl
  · exact h⟩

theorem TT.mono {m : Md} {o : Oper} {K K' : S → Prop} {s : S} (hk : ∀ s', gamNE c s' → s'.WF → Kept o s s' → K s' → K' s') (h : TT P I c m o K s) : TT P I c m o K' s := by
  unfold TT at *
  cases e : kd o <;> simp only [e] at h ⊢
  · obtain ⟨r, h1, h2, h3, h5⟩ := h
    exact ⟨r, h1, h2, h3, h5.mono fun a b => hk _ a b (Kept.put ..)⟩
  · exact Effs.mono h fun M' r _ _ _ _ _ _ _ hk' => hk'.mono fun a b => hk _ a b ((Kept.withM ..).trans (Kept.put ..))
  · obtain ⟨i, h1, h2, h3⟩ := h
    exact ⟨i, h1, h2, fun b hb hB => (h3 b hb hB).mono fun x y => hk _ x y ((Kept.withM ..).trans (Kept.put ..))⟩
  · obtain ⟨d, T, l, h1, h2, h3, h4, h5⟩ := h
    exact ⟨d, T, l, h1, h2, h3, h4, h5.mono fun x y => hk _ x y (by rw [← h1]; exact (Kept.setOb ..).trans (Kept.put ..))⟩
  · rcases h with ⟨M', h1, h2, h3, h4⟩ | ⟨i, T, l', h1, h2, h3, h4⟩
    · exact .inl ⟨M', h1, h2, h3, h4.mono fun x y => hk _ x y (Kept.withM ..)⟩
    · exact .inr ⟨i, T, l', h1, h2, h3, h4.mono fun x y => hk _ x y (Kept.setOb ..)⟩

theorem TG.mono {m : Md} {o : Oper} {K K' : S → Prop} {s : S} (hk : ∀ s', gamNE c s' → s'.WF → Kept o s s' → K s' → K' s') (h : TG P I c ops m o K s) : TG P I c ops m o K' s := by
  unfold TG at *
  split
  · rename_i e; rw [e] at h; exact TT.mono hk h
  · rename_i e; rw [e] at h; exact h.mono fun x y => hk _ x y (Kept.put ..)
  · rename_i e; rw [e] at h; exact h

/-- What an operation that only reads has at hand. -/
structure RInfo (P : Program) (I : Info) (c : Ct) (m : Md) (o : Oper) (r : AV) (s : S) : Prop where
  wf : r.wf (s.drop m.avoid).live = true
  rd : Reads P c o (s.drop m.avoid) r
  det : m.det = true → I.val o s = some r

theorem S.Weak.refl (s : S) : s.Weak s := ⟨rfl, fun _ => .inr rfl, Mem.le_refl _⟩

theorem TT.after (hI : I.Ok P) {mi mj : Md} {oi oj : Oper} (hsi : ∀ cs b, oi.op ≠ .select cs b) {r : AV}
    (hd : ∀ t, oj.dst = some t → t ∉ oi.looksAt ops)
    (hst : kd oj = .w → (mi.det = false ∧ mj.avoid ≠ [] ∧ ∀ i ∈ mj.avoid, i ∈ mi.avoid) ∨ (mi.det = true ∧ mi.avoid = [] ∧ noLoad oi = true)) (hup : mj.upd = false ∨ (mi.det = true ∧ mi.avoid = [])) {K : S → Prop} {s : S} (hr : RInfo P I c mi oi r s) (h : TT P I c mj oj K s) :
    TT P I c mj oj (fun s' => K s' ∧ RInfo P I c mi oi r s') s := by
  have hop := looks_op hd
  have wfk : ∀ s', Kept oj s s' → r.wf (s'.drop mi.avoid).live = true := fun s' hk => AV.wf_mono (fun i hi => by
    rw [S.drop_live] at hi ⊢
    simp only [Bool.and_eq_true] at hi ⊢
    exact ⟨hi.1, hk.live i hi.2⟩) r hr.wf
  unfold TT at *
  cases e : kd oj <;> simp only [e] at h ⊢
  · obtain ⟨r', h1, h2, h3, h5⟩ := h
    refine ⟨r', h1, h2, h3, h5.mono fun _ _ hK => ⟨hK, wfk _ (Kept.put ..), ?_, fun x => by rw [hI.val_put hop]; exact hr.det x⟩⟩
    rw [S.drop_put]; exact (Reads.put hsi hd).2 hr.rd
  · refine Effs.mono h fun M' x ρ a w w' hg hgr _ hk' => hk'.mono fun _ _ hK => ⟨hK, wfk _ ((Kept.withM ..).trans (Kept.put ..)), ?_, fun y => by rw [hI.val_put hop, hI.val_M]; exact hr.det y⟩
    rcases hup with hup | ⟨hdet, hae⟩
    · rw [S.drop_put, S.drop_withM]
      exact (Reads.put hsi hd).2 (hr.rd.weak (.withM (by rw [S.drop_M]; exact hgr.le hup)))
    · rw [hae]
      exact (Reads.put hsi hd).2 (hI.val (by show I.val oi (s.withM M') = _; rw [hI.val_M]; exact hr.det hdet))
  · obtain ⟨i, h1, h2, h3⟩ := h
    refine ⟨i, h1, h2, fun b hb hB => (h3 b hb hB).mono fun _ _ hK => ⟨hK, wfk _ ((Kept.withM ..).trans (Kept.put ..)), ?_, fun y => by rw [hI.val_put hop, hI.val_M]; exact hr.det y⟩⟩
    rw [S.drop_put, S.drop_withM]
    exact (Reads.put hsi hd).2 (hr.rd.weak (.withM (by rw [S.drop_M]; exact Mem.le_set hb)))
  · obtain ⟨d, T, l, h1, h2, h3, h4, h5⟩ := h
    have hkp : Kept oj s ((s.setOb d (.cells T l)).put (some d) (.ptr d 0)) := by rw [← h1]; exact (Kept.setOb ..).trans (Kept.put ..)
    refine ⟨d, T, l, h1, h2, h3, h4, h5.mono fun _ _ hK => ⟨hK, wfk _ hkp, ?_, fun y => ?_⟩⟩
    · rw [S.drop_put, ← h1]
      refine (Reads.put hsi hd).2 (hr.rd.weak ⟨by rw [S.drop_tmps, S.drop_tmps]; rfl, fun j => ?_, by rw [S.drop_M, S.drop_M]; exact Mem.le_refl _⟩)
      rw [S.drop_ob, S.drop_ob]
      by_cases k : j ∈ mi.avoid
      · simp [k]
      · simp only [k, if_false]
        by_cases ej : d = j
        · subst ej; exact .inl h3
        · right; rw [S.ob_setOb_ne s _ ej]
    · rw [← h1, hI.val_put hop]; exact hI.val_ob (hr.det y) h3
  · rcases hst e with ⟨hs1, hs2, hs3⟩ | ⟨hs1, hs2, hs3⟩
    case inr =>
      have hv := hr.det hs1
      have hdr : ∀ (l : List Nat) (s' : S), I.val oi (s'.drop l) = I.val oi s' := fun l => by
        induction l with
        | nil => intro s'; rfl
        | cons j l ih => intro s'; unfold S.drop at ih ⊢; simp only [List.foldl_cons]; rw [ih, hI.val_pure hs3]
      rcases h with ⟨M', h1, h2, h3, h4⟩ | ⟨i, T, l', h1, h2, h3, h4⟩
      · refine .inl ⟨M', h1, h2, h3, h4.mono fun _ _ hK => ⟨hK, wfk _ (Kept.withM ..), hI.val (by rw [hdr, hI.val_M]; exact hv), fun _ => by rw [hI.val_M]; exact hv⟩⟩
      · refine .inr ⟨i, T, l', h1, h2, h3, h4.mono fun _ _ hK => ⟨hK, wfk _ (Kept.setOb ..), hI.val (by rw [hdr, hI.val_pure hs3]; exact hv), fun _ => by rw [hI.val_pure hs3]; exact hv⟩⟩
    rcases h with ⟨M', h1, h2, h3, h4⟩ | ⟨i, T, l', h1, h2, h3, h4⟩
    · exact absurd h2 hs2
    have hi : i ∈ mi.avoid := hs3 i (h3 hs2)
    refine .inr ⟨i, T, l', h1, h2, h3, h4.mono fun _ _ hK => ⟨hK, wfk _ (Kept.setOb ..), ?_, fun y => (by rw [hs1] at y; cases y)⟩⟩
    refine hr.rd.weak ⟨by rw [S.drop_tmps, S.drop_tmps]; rfl, fun j => ?_, by rw [S.drop_M, S.drop_M]; exact Mem.le_refl _⟩
    rw [S.drop_ob, S.drop_ob]
    by_cases k : j ∈ mi.avoid
    · simp [k]
    · simp only [k, if_false]
      right
      rw [S.ob_setOb_ne s _ (fun (e : i = j) => k (e ▸ hi))]

/-- An operation whose value is known takes its place at the state. -/
theorem RInfo.step {m : Md} {o : Oper} {r : AV} {s : S} {K : S → Prop} (hk : kd o = .r) (hr : RInfo P I c m o r s) (h : G c K (s.put o.dst r)) : TT P I c m o K s := by
  unfold TT
  simp only [hk]
  exact ⟨r, hr.wf, hr.rd, hr.det, h⟩

theorem gamNE.act {s : S} (h : gamNE c s) {o : Oper} {up : Bool} {k : Mem → AV → Prop} (he : Effs P c up o s k) : ∃ M' r, gamNE c ((s.withM M').put o.dst r) ∧ r.ground = true ∧ k M' r := by
  obtain ⟨ρ, a, w, hg⟩ := h
  obtain ⟨v, w', M', r, rfl, hr, hgr, hk⟩ := (he ρ a w hg).exists
  exact ⟨M', r, ⟨_, _, _, (hg.grow hgr).put (Den.of_ground hr ρ) _⟩, hr, hk⟩

theorem gamNE.new {s : S} (hI : I.Ok P) (h : gamNE c s) {o : Oper} {i : NewI} (hi : I.new o s = some i) (hs : i.side ()) :
    ∃ b, s.M b = none ∧ c.B0 ≤ b ∧ gamNE c ((s.withM (s.M.set b i.frag)).put o.dst (i.r b)) := by
  obtain ⟨ρ, a, w, hg⟩ := h
  obtain ⟨ob, hob, _⟩ := hI.new hi hs hg
  exact ⟨w.heap.size, hg.fresh, by simpa [Ct.B0] using hg.fr.size, ⟨_, _, _, (hg.grow (Grow.alloc hg.mem hg.fresh hob (frozAt_row hob))).put (Den.of_ground (hI.new_r hi _) ρ) _⟩⟩

/-- Which operations may change places: 'i' first in the one order, 'j' first in the other. -/
def swapOk (ops : Array Oper) (mi mj : Md) (oi oj : Oper) : Bool :=
  oi.apart ops oj &&
  match kd oi, kd oj with
  | .r, .r | .r, .n | .r, .f => true
  | .r, .e => !mj.upd || (mi.det && mi.avoid.isEmpty)
  | .r, .w => (!mi.det && !mj.avoid.isEmpty && mj.avoid.all mi.avoid.contains) || (mi.det && mi.avoid.isEmpty && noLoad oi)
  | .e, .r | .n, .r => mj.det && mj.avoid.isEmpty
  | .e, .n => !mi.upd
  | .f, .r => !mj.det && oi.dst.any mj.avoid.contains
  | .e, .f | .n, .n | .n, .f | .w, .f | .f, .f | .f, .n => true
  | _, _ => false

theorem swap_ef (hI : I.Ok P) {mi mj : Md} {oi oj : Oper} (hsi : ∀ cs b, oi.op ≠ .select cs b) (hap : Apart ops oi oj) (hi : kd oi = .e) (hj : kd oj = .f) {K : S → Prop} {s : S} (hne : gamNE c s) (hw : s.WF)
    (h : TT P I c mi oi (TT P I c mj oj K) s) : TT P I c mj oj (TT P I c mi oi K) s := by
  have hopj := looks_op hap.a
  unfold TT at h ⊢
  simp only [hi, hj] at h ⊢
  have key : ∀ M' r, gamNE c ((s.withM M').put oi.dst r) → r.ground = true → G c (TT P I c mj oj K) ((s.withM M').put oi.dst r) →
      ∃ d T l, oj.dst = some d ∧ I.alloc oj s = some (T, l) ∧ s.ob d = .none ∧ d < s.objs.length ∧ G c K ((((s.withM M').put oi.dst r).setOb d (.cells T l)).put (some d) (.ptr d 0)) := fun M' r hn hr hG => by
    have := hG hn ((hw.withM M').put (AV.ground_wf hr _) _)
    unfold TT at this
    simp only [hj] at this
    obtain ⟨d, T, l, h1, h2, h3, h4, h5⟩ := this
    rw [hI.alloc_put hopj, hI.alloc_M] at h2
    exact ⟨d, T, l, h1, h2, by rw [S.ob_put] at h3; exact h3, by rw [S.objs_put] at h4; exact h4, h5⟩
  have h' : Effs P c mi.upd oi s fun M' r => G c (TT P I c mj oj K) ((s.withM M').put oi.dst r) := by
    refine h.mono fun M' r _ _ _ _ _ _ _ hk => ?_
    refine hk.mono fun _ _ hk => ?_
    unfold TT; simp only [hj]; exact hk
  obtain ⟨M0, r0, hn0, hr0, hG0⟩ := hne.act h'
  obtain ⟨d, T, l, h1, h2, h3, h4, _⟩ := key M0 r0 hn0 hr0 hG0
  refine ⟨d, T, l, h1, h2, h3, h4, fun hneF hwF => ?_⟩
  unfold TE
  rw [← h1] at hneF hwF ⊢
  rw [Effs.put hsi hap.c]
  have h2w : Effs P c mi.upd oi (s.setOb d (.cells T l)) fun M' r => G c (TT P I c mj oj K) ((s.withM M').put oi.dst r) ∧ gamNE c ((s.withM M').put oi.dst r) ∧ r.ground = true := by
    have hweak := S.Weak.setOb (.cells T l) h3
    intro ρ a w hg
    refine (h' ρ a w (hg.weak hweak)).mono ?_
    rintro v w' ⟨M', r, hv, hr, hgr, hk⟩
    exact ⟨M', r, hv, hr, hgr, hk, ⟨_, _, _, ((hg.weak hweak).grow hgr).put (Den.of_ground hr ρ) _⟩, hr⟩
  refine h2w.mono fun M' r ρ a w w' hg hgr hr hk => ?_
  obtain ⟨d', T', l', k1, k2, _, _, k5⟩ := key M' r hk.2.1 hk.2.2 hk.1
  rw [h1] at k1; cases k1
  rw [h2] at k2; cases k2
  have eq : (((s.withM M').put oi.dst r).setOb d (.cells T l)).put (some d) (.ptr d 0) = (((s.setOb d (.cells T l)).put oj.dst (.ptr d 0)).withM M').put oi.dst r := by
    rw [← S.put_setOb, S.setOb_withM, ← h1, S.put_put_comm _ _ _ hap.b, S.put_withM]
  rw [← eq]; exact k5

theorem swap_en (hI : I.Ok P) {mi mj : Md} (hmi : mi.upd = false) {oi oj : Oper} (hsi : ∀ cs b, oi.op ≠ .select cs b) (hap : Apart ops oi oj) (hi : kd oi = .e) (hj : kd oj = .n) {K : S → Prop} {s : S} (hne : gamNE c s) (hw : s.WF)
    (h : TT P I c mi oi (TT P I c mj oj K) s) : TT P I c mj oj (TT P I c mi oi K) s := by
  have hopj := looks_op hap.a
  unfold TT at h ⊢
  simp only [hi, hj] at h ⊢
  have h' : Effs P c mi.upd oi s fun M' r => G c (TT P I c mj oj K) ((s.withM M').put oi.dst r) := by
    refine h.mono fun M' r _ _ _ _ _ _ _ hk => ?_
    refine hk.mono fun _ _ hk => ?_
    unfold TT; simp only [hj]; exact hk
  have key : ∀ M' r, gamNE c ((s.withM M').put oi.dst r) → r.ground = true → G c (TT P I c mj oj K) ((s.withM M').put oi.dst r) →
      ∃ i, I.new oj s = some i ∧ i.side () ∧ ∀ b, M' b = none → c.B0 ≤ b → G c K ((((s.withM M').put oi.dst r).withM (M'.set b i.frag)).put oj.dst (i.r b)) := fun M' r hn hr hG => by
    have := hG hn ((hw.withM M').put (AV.ground_wf hr _) _)
    unfold TT at this
    simp only [hj] at this
    obtain ⟨i, h1, h2, h3⟩ := this
    rw [hI.new_put hopj, hI.new_M] at h1
    rw [S.M_put] at h3
    exact ⟨i, h1, h2, h3⟩
  obtain ⟨M0, r0, hn0, hr0, hG0⟩ := hne.act h'
  obtain ⟨i, h1, h2, _⟩ := key M0 r0 hn0 hr0 hG0
  refine ⟨i, h1, h2, fun b hb hB hneF hwF => ?_⟩
  unfold TE
  dsimp only
  rw [Effs.put hsi hap.c]
  intro ρ a w hg
  have hlt : b < w.heap.size := by
    have := hg.mem b i.frag (by simp [S.withM, Mem.set])
    rcases Nat.lt_or_ge b w.heap.size with h' | h'
    · exact h'
    · rw [Array.getElem?_eq_none h'] at this
      simp [NewI.frag, Frag.on] at this
  have hg0 : Gam c ρ s a w := hg.weak (.withM (Mem.le_set hb))
  refine (h' ρ a w hg0).mono ?_
  rintro v w' ⟨M', r, hv, hr, hgr, hk⟩
  have hMb : M' b = none := by
    cases hm : M' b with
    | none => rfl
    | some f =>
      rcases hgr.fresh b (by simp [hm]) with e | e
      · exact absurd hb e
      · omega
  have hgr' : Grow c mi.upd (s.M.set b i.frag) w (M'.set b i.frag) w' := by
    refine ⟨fun _ => Mem.set_le_set (hgr.le hmi) (Frag.le_refl _), Mem.on_set hgr.on ?_, hgr.os, hgr.tape, hgr.output, hgr.froz, hgr.size, fun b' hb' hx => ?_, fun b' hb' => ?_⟩
    · rw [hgr.block b hlt (.inl hb)]
      exact hg.mem b i.frag (by simp [S.withM, Mem.set])
    · refine hgr.block b' hb' (hx.imp_left fun hx => ?_)
      unfold Mem.set at hx
      split at hx
      · cases hx
      · exact hx
    · unfold Mem.set at hb' ⊢
      split
      · exact .inl (by simp)
      · rename_i e; rw [if_neg e] at hb'; exact hgr.fresh b' hb'
  refine ⟨M'.set b i.frag, r, hv, hr, hgr', ?_⟩
  obtain ⟨i', k1, _, k3⟩ := key M' r ⟨_, _, _, (hg0.grow hgr).put (Den.of_ground hr ρ) _⟩ hr hk
  rw [h1] at k1; cases k1
  have := k3 b hMb hB
  have eq : (((s.withM M').put oi.dst r).withM (M'.set b i.frag)).put oj.dst (i.r b) = (((s.withM (s.M.set b i.frag)).put oj.dst (i.r b)).withM (M'.set b i.frag)).put oi.dst r := by
    rw [S.put_withM, S.put_withM, S.put_withM, S.put_withM, S.put_withM, S.put_withM, S.put_put_comm _ _ _ hap.b]; rfl
  rw [← eq]; exact this

theorem swap_nn (hI : I.Ok P) {mi mj : Md} {oi oj : Oper} (hap : Apart ops oi oj) (hi : kd oi = .n) (hj : kd oj = .n) {K : S → Prop} {s : S} (hne : gamNE c s) (hw : s.WF)
    (h : TT P I c mi oi (TT P I c mj oj K) s) : TT P I c mj oj (TT P I c mi oi K) s := by
  have hopj := looks_op hap.a
  have hopi := looks_op hap.c
  unfold TT at h ⊢
  simp only [hi] at h ⊢
  obtain ⟨i, h1, h2, h3⟩ := h
  have key : ∀ b, s.M b = none → c.B0 ≤ b → gamNE c ((s.withM (s.M.set b i.frag)).put oi.dst (i.r b)) →
      ∃ j, I.new oj s = some j ∧ j.side () ∧ ∀ b', (s.M.set b i.frag) b' = none → c.B0 ≤ b' →
        G c K ((((s.withM (s.M.set b i.frag)).put oi.dst (i.r b)).withM ((s.M.set b i.frag).set b' j.frag)).put oj.dst (j.r b')) := fun b hb hB hn => by
    have := h3 b hb hB hn ((hw.withM _).put (AV.ground_wf (hI.new_r h1 b) _) _)
    unfold TT at this
    simp only [hj] at this
    obtain ⟨j, k1, k2, k3⟩ := this
    rw [hI.new_put hopj, hI.new_M] at k1
    rw [S.M_put] at k3
    exact ⟨j, k1, k2, k3⟩
  obtain ⟨b0, hb0, hB0, hn0⟩ := hne.new hI h1 h2
  obtain ⟨j, k1, k2, _⟩ := key b0 hb0 hB0 hn0
  simp only [hj]
  refine ⟨j, k1, k2, fun b' hb' hB' _ _ => ?_⟩
  dsimp only
  refine ⟨i, by rw [hI.new_put hopi, hI.new_M]; exact h1, h2, fun b hb hB hneF hwF => ?_⟩
  rw [S.M_put] at hb hneF hwF ⊢
  have hbb : b ≠ b' := fun e => by subst e; simp [S.withM, Mem.set] at hb
  have hb1 : s.M b = none := by simpa [S.withM, Mem.set, hbb] using hb
  have hle : (s.M.set b i.frag).le ((s.M.set b' j.frag).set b i.frag) := Mem.set_le_set (Mem.le_set hb') (Frag.le_refl _)
  have hn : gamNE c ((s.withM (s.M.set b i.frag)).put oi.dst (i.r b)) := by
    have e : (((s.withM (s.M.set b' j.frag)).put oj.dst (j.r b')).withM ((s.M.set b' j.frag).set b i.frag)).put oi.dst (i.r b) =
        (((s.withM (s.M.set b i.frag)).put oi.dst (i.r b)).withM ((s.M.set b' j.frag).set b i.frag)).put oj.dst (j.r b') := by
      rw [S.put_withM, S.put_withM, S.put_withM, S.put_withM, S.put_withM, S.put_withM, S.put_put_comm _ _ _ hap.b]; rfl
    have hneF' : gamNE c ((((s.withM (s.M.set b' j.frag)).put oj.dst (j.r b')).withM ((s.M.set b' j.frag).set b i.frag)).put oi.dst (i.r b)) := hneF
    rw [e] at hneF'
    exact hneF'.unput.weak (.withM (by rw [S.M_put]; exact hle))
  obtain ⟨j', e1, _, e3⟩ := key b hb1 hB hn
  rw [k1] at e1; cases e1
  have := e3 b' (by simp [Mem.set, Ne.symm hbb, hb']) hB'
  have eq : (((s.withM (s.M.set b i.frag)).put oi.dst (i.r b)).withM ((s.M.set b i.frag).set b' j.frag)).put oj.dst (j.r b') =
      (((s.withM (s.M.set b' j.frag)).put oj.dst (j.r b')).withM ((s.withM (s.M.set b' j.frag)).M.set b i.frag)).put oi.dst (i.r b) := by
    rw [S.put_withM, S.put_withM, S.put_withM, S.put_withM, S.put_withM, S.put_withM, S.put_put_comm _ _ _ hap.b]
    show S.withM _ _ = S.withM _ ((s.M.set b' j.frag).set b i.frag)
    rw [Mem.set_comm hbb]; rfl
  rw [eq] at this
  exact this hneF hwF

theorem swap_nf (hI : I.Ok P) {mi mj : Md} {oi oj : Oper} (hap : Apart ops oi oj) (hi : kd oi = .n) (hj : kd oj = .f) {K : S → Prop} {s : S} (hne : gamNE c s) (hw : s.WF)
    (h : TT P I c mi oi (TT P I c mj oj K) s) : TT P I c mj oj (TT P I c mi oi K) s := by
  have hopj := looks_op hap.a
  have hopi := looks_op hap.c
  unfold TT at h ⊢
  simp only [hi, hj] at h ⊢
  obtain ⟨i, h1, h2, h3⟩ := h
  have key : ∀ b, s.M b = none → c.B0 ≤ b → gamNE c ((s.withM (s.M.set b i.frag)).put oi.dst (i.r b)) →
      ∃ d T l, oj.dst = some d ∧ I.alloc oj s = some (T, l) ∧ s.ob d = .none ∧ d < s.objs.length ∧ G c K ((((s.withM (s.M.set b i.frag)).put oi.dst (i.r b)).setOb d (.cells T l)).put (some d) (.ptr d 0)) := fun b hb hB hn => by
    have := h3 b hb hB hn ((hw.withM _).put (AV.ground_wf (hI.new_r h1 b) _) _)
    dsimp only at this
    obtain ⟨d, T, l, k1, k2, k3, k4, k5⟩ := this
    rw [hI.alloc_put hopj, hI.alloc_M] at k2
    rw [S.ob_put] at k3
    rw [S.objs_put] at k4
    exact ⟨d, T, l, k1, k2, k3, k4, k5⟩
  obtain ⟨b0, hb0, hB0, hn0⟩ := hne.new hI h1 h2
  obtain ⟨d, T, l, k1, k2, k3, k4, _⟩ := key b0 hb0 hB0 hn0
  refine ⟨d, T, l, k1, k2, k3, k4, fun _ _ => ?_⟩
  rw [← k1]
  refine ⟨i, by rw [hI.new_put hopi, hI.new_ob]; exact h1, h2, fun b hb hB hneF hwF => ?_⟩
  rw [S.M_put] at hb
  have hb1 : s.M b = none := hb
  have eq : (((s.withM (s.M.set b i.frag)).put oi.dst (i.r b)).setOb d (.cells T l)).put (some d) (.ptr d 0) =
      (((s.setOb d (.cells T l)).put oj.dst (.ptr d 0)).withM (((s.setOb d (.cells T l)).put oj.dst (.ptr d 0)).M.set b i.frag)).put oi.dst (i.r b) := by
    rw [S.M_put, ← k1, ← S.put_setOb, S.setOb_withM, S.put_put_comm _ _ _ hap.b, S.put_withM]; rfl
  have hn : gamNE c ((s.withM (s.M.set b i.frag)).put oi.dst (i.r b)) := by
    have := hneF
    rw [← eq] at this
    exact this.unput.weak (S.Weak.setOb _ (by rw [S.ob_put]; exact k3))
  obtain ⟨d', T', l', e1, e2, _, _, e5⟩ := key b hb1 hB hn
  rw [k1] at e1; cases e1
  rw [k2] at e2; cases e2
  rw [eq] at e5
  exact e5 hneF hwF

theorem swap_ff (hI : I.Ok P) {mi mj : Md} {oi oj : Oper} (hap : Apart ops oi oj) (hi : kd oi = .f) (hj : kd oj = .f) {K : S → Prop} {s : S} (hne : gamNE c s) (hw : s.WF)
    (h : TT P I c mi oi (TT P I c mj oj K) s) : TT P I c mj oj (TT P I c mi oi K) s := by
  have hopj := looks_op hap.a
  have hopi := looks_op hap.c
  unfold TT at h ⊢
  simp only [hi] at h ⊢
  obtain ⟨d, T, l, h1, h2, h3, h4, h5⟩ := h
  have := h5 (hne.alloc hI hw h2 h3 h4) (hw.alloc' hI h2 h4)
  unfold TT at this
  simp only [hj] at this ⊢
  obtain ⟨d', T', l', k1, k2, k3, k4, k5⟩ := this
  have hdd : d ≠ d' := fun e => by subst e; exact hap.b d h1 k1
  rw [← h1, hI.alloc_put hopj, hI.alloc_ob] at k2
  rw [S.ob_put, S.ob_setOb_ne s _ hdd] at k3
  rw [S.objs_put] at k4
  have k4' : d' < s.objs.length := by simpa [S.setOb] using k4
  refine ⟨d', T', l', k1, k2, k3, k4', fun _ _ => ?_⟩
  dsimp only
  refine ⟨d, T, l, h1, by rw [← k1, hI.alloc_put hopi, hI.alloc_ob]; exact h2, by rw [S.ob_put, S.ob_setOb_ne s _ (Ne.symm hdd)]; exact h3, by rw [S.objs_put]; simpa [S.setOb] using h4, ?_⟩
  have eq : (((s.setOb d (.cells T l)).put (some d) (.ptr d 0)).setOb d' (.cells T' l')).put (some d') (.ptr d' 0) =
      (((s.setOb d' (.cells T' l')).put (some d') (.ptr d' 0)).setOb d (.cells T l)).put (some d) (.ptr d 0) := by
    simp only [S.put, S.setOb]
    rw [List.set_comm _ _ hdd, List.set_comm _ _ hdd]
  rw [← eq]; exact k5

theorem swap_fn (hI : I.Ok P) {mi mj : Md} {oi oj : Oper} (hap : Apart ops oi oj) (hi : kd oi = .f) (hj : kd oj = .n) {K : S → Prop} {s : S} (hne : gamNE c s) (hw : s.WF)
    (h : TT P I c mi oi (TT P I c mj oj K) s) : TT P I c mj oj (TT P I c mi oi K) s := by
  have hopj := looks_op hap.a
  have hopi := looks_op hap.c
  unfold TT at h ⊢
  simp only [hi, hj] at h ⊢
  obtain ⟨d, T, l, h1, h2, h3, h4, h5⟩ := h
  obtain ⟨j, k1, k2, k3⟩ := h5 (hne.alloc hI hw h2 h3 h4) (hw.alloc' hI h2 h4)
  rw [← h1, hI.new_put hopj, hI.new_ob] at k1
  refine ⟨j, k1, k2, fun b hb hB hneF hwF => ?_⟩
  refine ⟨d, T, l, h1, by rw [hI.alloc_put hopi, hI.alloc_M]; exact h2, by rw [S.ob_put]; exact h3, by rw [S.objs_put]; exact h4, fun hneG hwG => ?_⟩
  have := k3 b (by rw [S.M_put]; exact hb) hB
  have eq : (((s.setOb d (.cells T l)).put (some d) (.ptr d 0)).withM (((s.setOb d (.cells T l)).put (some d) (.ptr d 0)).M.set b j.frag)).put oj.dst (j.r b) =
      (((s.withM (s.M.set b j.frag)).put oj.dst (j.r b)).setOb d (.cells T l)).put (some d) (.ptr d 0) := by
    rw [S.M_put, ← S.put_setOb, S.setOb_withM, ← h1, S.put_withM, S.put_put_comm _ _ _ hap.b, S.put_withM, S.put_withM]; rfl
  rw [eq] at this
  exact this hneG hwG

theorem swap_wf (hI : I.Ok P) {mi mj : Md} {oi oj : Oper} (hsi : ∀ cs b, oi.op ≠ .select cs b) (hap : Apart ops oi oj) (hi : kd oi = .w) (hj : kd oj = .f) {K : S → Prop} {s : S} (hne : gamNE c s) (hw : s.WF)
    (h : TT P I c mi oi (TT P I c mj oj K) s) : TT P I c mj oj (TT P I c mi oi K) s := by
  have hopi := looks_op hap.c
  unfold TT at h ⊢
  simp only [hi, hj] at h ⊢
  rcases h with ⟨M', h1, h2, h3, h4⟩ | ⟨i, T, l', h1, h2, hav, h4⟩
  · have hn' : gamNE c (s.withM M') := by
      obtain ⟨ρ, a, w, hg⟩ := hne
      obtain ⟨w', _, hgr⟩ := h3 ρ a w hg
      exact ⟨_, _, _, hg.grow hgr⟩
    obtain ⟨d, T', l, k1, k2, k3, k4, k5⟩ := h4 hn' (hw.withM M')
    rw [hI.alloc_M] at k2
    refine ⟨d, T', l, k1, k2, k3, k4, fun _ _ => ?_⟩
    refine .inl ⟨M', h1, h2, ?_, ?_⟩
    · rw [← k1, Upds.put hsi hap.c]
      intro ρ a w hg
      exact h3 ρ a w (hg.weak (S.Weak.setOb _ k3))
    · rw [← S.put_withM]; exact k5
  have hlv := hI.store_live hne h2
  obtain ⟨d, T', l, k1, k2, k3, k4, k5⟩ := h4 (hne.store hI h2) (hw.store (hI.store_wf h2 hw))
  rw [hI.alloc_ob] at k2
  have hid : i ≠ d := fun e => by
    subst e
    rw [S.ob_setOb] at k3
    unfold S.live at hlv
    split at k3
    · cases k3
    · rw [k3] at hlv; cases hlv
  rw [S.ob_setOb_ne s _ hid] at k3
  have k4' : d < s.objs.length := by simpa [S.setOb] using k4
  refine ⟨d, T', l, k1, k2, k3, k4', fun _ _ => ?_⟩
  refine .inr ⟨i, T, l', h1, ?_, hav, ?_⟩
  · rw [← k1, hI.store_put hopi]; exact hI.store_ob h2 (Ne.symm hid)
  · have eq : ((s.setOb i (.cells T l')).setOb d (.cells T' l)).put (some d) (.ptr d 0) = ((s.setOb d (.cells T' l)).put (some d) (.ptr d 0)).setOb i (.cells T l') := by
      simp only [S.put, S.setOb]
      rw [List.set_comm _ _ hid]
    rw [← eq]; exact k5

theorem swap_r (hI : I.Ok P) {mi mj : Md} {oi oj : Oper} (hsi : ∀ cs b, oi.op ≠ .select cs b) (hsj : ∀ cs b, oj.op ≠ .select cs b) (hap : Apart ops oi oj)
    (hi : kd oi = .r) (hst : kd oj = .w → (mi.det = false ∧ mj.avoid ≠ [] ∧ ∀ i ∈ mj.avoid, i ∈ mi.avoid) ∨ (mi.det = true ∧ mi.avoid = [] ∧ noLoad oi = true)) (hup : mj.upd = false ∨ kd oj ≠ .e ∨ (mi.det = true ∧ mi.avoid = []))
    {K : S → Prop} {s : S} (hne : gamNE c s) (hw : s.WF) (h : TT P I c mi oi (TT P I c mj oj K) s) : TT P I c mj oj (TT P I c mi oi K) s := by
  unfold TT at h
  simp only [hi] at h
  obtain ⟨r, h1, h2, h3, h5⟩ := h
  have hr : RInfo P I c mi oi r s := ⟨h1, h2, h3⟩
  have h6 := h5 (hne.put _ _) (hw.put (AV.wf_mono (fun _ => S.live_of_drop) _ h1) _)
  have h7 : TT P I c mj oj K (s.put oi.dst r) := h6
  rw [TT.push hI hsj hap.a hap.b hw] at h7
  rcases hup with hup | hup | hup
  · have h8 := TT.after hI hsi hap.c hst (.inl hup) hr h7
    exact TT.mono (fun s' _ _ _ hK => hK.2.step hi hK.1) h8
  · have h7' : TT P I c { mj with upd := false } oj (fun s' => G c K (s'.put oi.dst r)) s := by
      unfold TT at h7 ⊢
      cases e : kd oj <;> simp only [e] at h7 ⊢ <;> first | exact absurd e hup | exact h7
    have h8 := TT.after (mj := { mj with upd := false }) hI hsi hap.c hst (.inl rfl) hr h7'
    have h9 := TT.mono (K' := TT P I c mi oi K) (fun s' _ _ _ hK => hK.2.step hi hK.1) h8
    unfold TT at h9 ⊢
    cases e : kd oj <;> simp only [e] at h9 ⊢ <;> first | exact absurd e hup | exact h9
  · have h8 := TT.after hI hsi hap.c hst (.inr hup) hr h7
    exact TT.mono (fun s' _ _ _ hK => hK.2.step hi hK.1) h8

/-- A new local variable, and then a reading that does not look at it. -/
theorem swap_fr (hI : I.Ok P) {mi mj : Md} {oi oj : Oper} (hsj : ∀ cs b, oj.op ≠ .select cs b) (hap : Apart ops oi oj)
    (hi : kd oi = .f) (hj : kd oj = .r) (hd : mj.det = false) (ha : ∃ d, oi.dst = some d ∧ d ∈ mj.avoid) {K : S → Prop} {s : S} (hne : gamNE c s) (hw : s.WF)
    (h : TT P I c mi oi (TT P I c mj oj K) s) : TT P I c mj oj (TT P I c mi oi K) s := by
  have hopi := looks_op hap.c
  obtain ⟨d0, hd0, ha⟩ := ha
  unfold TT at h ⊢
  simp only [hi, hj] at h ⊢
  obtain ⟨d, T, l, h1, h2, h3, h4, h5⟩ := h
  have hdd : d0 = d := by rw [h1] at hd0; exact (Option.some.inj hd0).symm
  rw [hdd] at ha
  clear hd0 hdd
  obtain ⟨r, k1, k2, k3, k5⟩ := h5 (hne.alloc hI hw h2 h3 h4) (hw.alloc' hI h2 h4)
  have hob : ∀ j, (((s.setOb d (.cells T l)).put (some d) (.ptr d 0)).drop mj.avoid).ob j = (s.drop mj.avoid).ob j := fun j => by
    rw [S.drop_ob, S.drop_ob, S.ob_put]
    by_cases k : j ∈ mj.avoid
    · simp [k]
    · simp only [k, if_false]
      rw [S.ob_setOb_ne s _ (fun (e : d = j) => k (e ▸ ha))]
  have hwf : r.wf (s.drop mj.avoid).live = true := AV.wf_mono (fun i hi => by unfold S.live at *; rw [hob] at hi; exact hi) r k1
  refine ⟨r, hwf, ?_, (fun e => by rw [hd] at e; cases e), fun hn hw' => ⟨d, T, l, h1, by rw [hI.alloc_put hopi]; exact h2, by rw [S.ob_put]; exact h3, by rw [S.objs_put]; exact h4, fun hn2 hw2 => ?_⟩⟩
  · rw [S.drop_put, ← h1] at k2
    refine ((Reads.put hsj hap.a).1 k2).weak ⟨by rw [S.drop_tmps, S.drop_tmps]; rfl, fun j => .inr ?_, by rw [S.drop_M, S.drop_M]; exact Mem.le_refl _⟩
    have := hob j
    rw [S.drop_put, S.ob_put] at this
    exact this
  · have eq : ((s.setOb d (.cells T l)).put (some d) (.ptr d 0)).put oj.dst r = ((s.put oj.dst r).setOb d (.cells T l)).put (some d) (.ptr d 0) := by
      rw [← h1, S.put_put_comm _ _ _ hap.b, S.put_setOb, h1]
    rw [eq] at k5
    exact k5 hn2 hw2

/-- An operation whose value hangs on operands and local variables alone, behind one that does not touch them. -/
theorem swap_det (hI : I.Ok P) {mi mj : Md} {oi oj : Oper} (hsi : ∀ cs b, oi.op ≠ .select cs b) (hap : Apart ops oi oj)
    (hi : kd oi = .e ∨ kd oi = .n) (hj : kd oj = .r) (hd : mj.det = true) (ha : mj.avoid = []) {K : S → Prop} {s : S} (hne : gamNE c s) (hw : s.WF)
    (h : TT P I c mi oi (TT P I c mj oj K) s) : TT P I c mj oj (TT P I c mi oi K) s := by
  have hopj := looks_op hap.a
  -- the value
  have hval : ∀ s', Kept oi s s' → (∃ M' x, s' = (s.withM M').put oi.dst x) → TT P I c mj oj K s' → ∃ r, I.val oj s = some r ∧ G c K (s'.put oj.dst r) := by
    rintro s' _ ⟨M', x, rfl⟩ hk
    unfold TT at hk
    simp only [hj] at hk
    obtain ⟨r, k1, k2, k3, k5⟩ := hk
    have := k3 hd
    rw [hI.val_put hopj, hI.val_M] at this
    exact ⟨r, this, k5⟩
  have hex : ∃ r, I.val oj s = some r := by
    rcases hi with hi | hi
    · unfold TT at h
      simp only [hi] at h
      obtain ⟨M', r, hn, hr, hk⟩ := hne.act h
      obtain ⟨r', h1, _⟩ := hval _ ((Kept.withM ..).trans (Kept.put ..)) ⟨M', r, rfl⟩ (by
        have := hk hn ((hw.withM M').put (AV.ground_wf hr _) _)
        exact this)
      exact ⟨r', h1⟩
    · unfold TT at h
      simp only [hi] at h
      obtain ⟨i, h1, h2, h3⟩ := h
      obtain ⟨b, hb, hB, hn⟩ := hne.new hI h1 h2
      obtain ⟨r', h1', _⟩ := hval _ ((Kept.withM ..).trans (Kept.put ..)) ⟨_, _, rfl⟩ (by
        have := h3 b hb hB hn ((hw.withM _).put (AV.ground_wf (hI.new_r h1 b) _) _)
        exact this)
      exact ⟨r', h1'⟩
  obtain ⟨r, hr⟩ := hex
  have hwf := hI.val_wf hr hw
  have hri : RInfo P I c mj oj r s := ⟨by rw [ha]; exact hwf, by rw [ha]; exact hI.val hr, fun _ => hr⟩
  refine hri.step hj fun hn hwn => ?_
  rw [TT.push hI hsi hap.c (fun t e e' => hap.b t e' e) hw]
  unfold TT at h ⊢
  rcases hi with hi | hi <;> simp only [hi] at h ⊢
  · refine Effs.mono h fun M' x _ _ _ _ _ _ _ hk => hk.mono fun hn hw' hk => ?_
    have hk' : TT P I c mj oj K ((s.withM M').put oi.dst x) := by unfold TT; simp only [hj] at hk ⊢; exact hk
    obtain ⟨r', e1, e2⟩ := hval _ ((Kept.withM ..).trans (Kept.put ..)) ⟨M', x, rfl⟩ hk'
    rw [hr] at e1; cases e1
    exact e2
  · obtain ⟨i, h1, h2, h3⟩ := h
    refine ⟨i, h1, h2, fun b hb hB => (h3 b hb hB).mono fun hn hw' hk => ?_⟩
    have hk' : TT P I c mj oj K ((s.withM (s.M.set b i.frag)).put oi.dst (i.r b)) := by unfold TT; simp only [hj] at hk ⊢; exact hk
    obtain ⟨r', e1, e2⟩ := hval _ ((Kept.withM ..).trans (Kept.put ..)) ⟨_, _, rfl⟩ hk'
    rw [hr] at e1; cases e1
    exact e2

theorem swapOk_spec {mi mj : Md} {oi oj : Oper} (h : swapOk ops mi mj oi oj = true) : oi.apart ops oj = true ∧
    ((kd oi = .r ∧ (kd oj = .w → (mi.det = false ∧ mj.avoid ≠ [] ∧ ∀ i ∈ mj.avoid, i ∈ mi.avoid) ∨ (mi.det = true ∧ mi.avoid = [] ∧ noLoad oi = true)) ∧ (mj.upd = false ∨ kd oj ≠ .e ∨ (mi.det = true ∧ mi.avoid = []))) ∨
     ((kd oi = .e ∨ kd oi = .n) ∧ kd oj = .r ∧ mj.det = true ∧ mj.avoid = []) ∨
     (kd oi = .e ∧ kd oj = .n ∧ mi.upd = false) ∨ (kd oi = .e ∧ kd oj = .f) ∨ (kd oi = .n ∧ kd oj = .n) ∨ (kd oi = .n ∧ kd oj = .f) ∨ (kd oi = .w ∧ kd oj = .f) ∨ (kd oi = .f ∧ kd oj = .f) ∨ (kd oi = .f ∧ kd oj = .n) ∨
     (kd oi = .f ∧ kd oj = .r ∧ mj.det = false ∧ ∃ d, oi.dst = some d ∧ d ∈ mj.avoid)) := by
  unfold swapOk at h
  simp only [Bool.and_eq_true] at h
  obtain ⟨h1, h4⟩ := h
  refine ⟨h1, ?_⟩
  cases hi : kd oi <;> cases hj : kd oj <;> simp [hi, hj] at h4 ⊢
  · exact h4
  · rcases h4 with h4 | h4
    · exact .inl ⟨h4.1.1, h4.1.2, h4.2⟩
    · exact .inr ⟨h4.1.1, h4.1.2, h4.2⟩
  · exact h4
  · exact h4
  · exact h4
  · refine ⟨h4.1, ?_⟩
    cases hd : oi.dst with
    | none => simp [hd] at h4
    | some d => exact ⟨d, rfl, by simpa [hd] using h4.2⟩

theorem TT.swap (hI : I.Ok P) {mi mj : Md} {oi oj : Oper} (hsi : ∀ cs b, oi.op ≠ .select cs b) (hsj : ∀ cs b, oj.op ≠ .select cs b) (hok : swapOk ops mi mj oi oj = true)
    {K : S → Prop} {s : S} (hne : gamNE c s) (hw : s.WF) (h : TT P I c mi oi (TT P I c mj oj K) s) : TT P I c mj oj (TT P I c mi oi K) s := by
  obtain ⟨hap, hk⟩ := swapOk_spec hok
  have hap := Apart.of hap
  rcases hk with ⟨hi, hst, hup⟩ | ⟨hi, hj, hd, ha⟩ | ⟨hi, hj, hmi⟩ | ⟨hi, hj⟩ | ⟨hi, hj⟩ | ⟨hi, hj⟩ | ⟨hi, hj⟩ | ⟨hi, hj⟩ | ⟨hi, hj⟩ | ⟨hi, hj, hd, ha⟩
  · exact swap_r hI hsi hsj hap hi hst hup hne hw h
  · exact swap_det hI hsi hap hi hj hd ha hne hw h
  · exact swap_en hI hmi hsi hap hi hj hne hw h
  · exact swap_ef hI hsi hap hi hj hne hw h
  · exact swap_nn hI hap hi hj hne hw h
  · exact swap_nf hI hap hi hj hne hw h
  · exact swap_wf hI hsi hap hi hj hne hw h
  · exact swap_ff hI hap hi hj hne hw h
  · exact swap_fn hI hap hi hj hne hw h
  · exact swap_fr hI hsj hap hi hj hd ha hne hw h

theorem TG.swap (hI : I.Ok P) {mi mj : Md} {oi oj : Oper} (hsi : ∀ cs b, oi.op ≠ .select cs b) (hsj : ∀ cs b, oj.op ≠ .select cs b) (hok : swapOk ops mi mj oi oj = true)
    {K : S → Prop} {s : S} (hne : gamNE c s) (hw : s.WF) (h : TG P I c ops mi oi (TG P I c ops mj oj K) s) : TG P I c ops mj oj (TG P I c ops mi oi K) s := by
  obtain ⟨hap, _⟩ := swapOk_spec hok
  have hap := Apart.of hap
  have uw : ∀ p, uav.wf p = true := fun p => AV.ground_wf uav_ground p
  have gj : ∀ s', Kept oi s s' → guardV ops oj s' = guardV ops oj s := fun s' hk => hk.guard hap.a
  have gi : ∀ s', Kept oj s s' → guardV ops oi s' = guardV ops oi s := fun s' hk => hk.guard hap.c
  cases hgi : guardV ops oi s with
  | none => unfold TG at h; rw [hgi] at h; exact h.elim
  | some x =>
    cases hgj : guardV ops oj s with
    | none =>
      exfalso
      have h' : TG P I c ops mi oi (fun s' => False) s := TG.mono (fun s' _ _ hk hK => by unfold TG at hK; rw [gj s' hk, hgj] at hK; exact hK) h
      obtain ⟨ρ, a, w, hg⟩ := hne
      unfold TG at h'
      rw [hgi] at h'
      cases x with
      | false => exact (h' ((Gam.ne hg).put _ _) (hw.put (uw _) _))
      | true =>
        have := TT.sound (Q := fun _ _ _ => False) hI hg hw h'
        have hf : ∀ a' w', ¬ Went c (fun _ => False) a' w' := fun a' w' ⟨_, _, _, _, h⟩ => h
        unfold TT at h'
        cases hk : kd oi <;> simp only [hk] at h'
        · obtain ⟨r, h1, h2, _, h5⟩ := h'; exact h5 ((Gam.ne hg).put _ _) (hw.put (AV.wf_mono (fun _ => S.live_of_drop) _ h1) _)
        · obtain ⟨M', r, hn, hr, hk'⟩ := (Gam.ne hg).act h'; exact hk' hn ((hw.withM M').put (AV.ground_wf hr _) _)
        · obtain ⟨i, h1, h2, h3⟩ := h'
          obtain ⟨b, hb, hB, hn⟩ := (Gam.ne hg).new hI h1 h2
          exact h3 b hb hB hn ((hw.withM _).put (AV.ground_wf (hI.new_r h1 b) _) _)
        · obtain ⟨d, T, l, h1, h2, h3, h4, h5⟩ := h'; exact h5 ((Gam.ne hg).alloc hI hw h2 h3 h4) (hw.alloc' hI h2 h4)
        · rcases h' with ⟨M', _, _, h3, h4⟩ | ⟨i, T, l', h1, h2, h3, h4⟩
          · obtain ⟨w', _, hgr⟩ := h3 ρ a w hg
            exact h4 ⟨_, _, _, hg.grow hgr⟩ (hw.withM M')
          · exact h4 ((Gam.ne hg).store hI h2) (hw.store (hI.store_wf h2 hw))
    | some y =>
      have hin : ∀ (K' : S → Prop), TG P I c ops mi oi (TG P I c ops mj oj K) s → TG P I c ops mi oi (fun s' => if y then TT P I c mj oj K s' else G c K (s'.put oj.dst uav)) s := fun _ h =>
        TG.mono (fun s' _ _ hk hK => by unfold TG at hK; rw [gj s' hk, hgj] at hK; cases y <;> exact hK) h
      have h1 := hin K h
      have hout : ∀ m : Unit, (if y then TT P I c mj oj (fun s' => if x then TT P I c mi oi K s' else G c K (s'.put oi.dst uav)) s else G c (fun s' => if x then TT P I c mi oi K s' else G c K (s'.put oi.dst uav)) (s.put oj.dst uav)) →
          TG P I c ops mj oj (TG P I c ops mi oi K) s := fun _ h => by
        unfold TG
        rw [hgj]
        cases y with
        | true =>
          refine TT.mono (fun s' _ _ hk hK => ?_) h
          rw [gi s' hk, hgi]
          cases x <;> exact hK
        | false =>
          simp only [Bool.false_eq_true, if_false] at h
          refine G.mono (fun _ _ hK => ?_) h
          rw [gi _ (Kept.put ..), hgi]
          cases x <;> exact hK
      refine hout () ?_
      unfold TG at h1
      rw [hgi] at h1
      cases x with
      | false =>
        have h2 := h1 (hne.put _ _) (hw.put (uw _) _)
        cases y with
        | false =>
          intro _ _ _ _
          simp only [Bool.false_eq_true, if_false] at h2
          rw [S.put_put_comm _ _ _ hap.b] at h2
          exact h2 (by assumption) (by assumption)
        | true =>
          simp only [if_true, Bool.false_eq_true, if_false] at h2 ⊢
          rw [TT.push hI hsj hap.a hap.b hw] at h2
          exact h2
      | true =>
        cases y with
        | false =>
          simp only [if_true, Bool.false_eq_true, if_false] at h1 ⊢
          intro _ _
          rw [TT.push hI hsi hap.c (fun t e e' => hap.b t e' e) hw]
          exact h1
        | true =>
          simp only [if_true] at h1 ⊢
          exact TT.swap hI hsi hsj hok hne hw h1

/-! ### A region that draws its order -/

def mdAt (mds : List (Nat × Md)) (i : Nat) : Md := ((mds.find? (·.1 == i)).map (·.2)).getD {}

variable (P I c ops) in
/-- Operation number i comes up. -/
def TGi (mds : List (Nat × Md)) (i : Nat) (K : S → Prop) (s : S) : Prop :=
  match ops[i]? with
  | none => K s
  | some o => TG P I c ops (mdAt mds i) o K s

variable (P I c ops) in
/-- Whatever order is picked from here on. -/
def aAny (mds : List (Nat × Md)) (K : S → Prop) : Nat → Array Bool → S → Prop
  | 0, listed, s => Region.ready .any ops listed = [] ∧ K s
  | fuel + 1, listed, s => (Region.ready .any ops listed = [] → K s) ∧ ∀ i ∈ Region.ready .any ops listed, TGi P I c ops mds i (aAny mds K fuel (listed.setIfInBounds i true)) s

theorem TGi.mono {mds : List (Nat × Md)} {i : Nat} {K K' : S → Prop} {s : S} (hne : gamNE c s) (hw : s.WF) (hk : ∀ s', gamNE c s' → s'.WF → K s' → K' s') (h : TGi P I c ops mds i K s) : TGi P I c ops mds i K' s := by
  unfold TGi at *
  split
  · rename_i e; rw [e] at h; exact hk s hne hw h
  · rename_i e; rw [e] at h; exact TG.mono (fun s' a b _ h => hk s' a b h) h

theorem TGi.sound (hI : I.Ok P) {mds : List (Nat × Md)} {i : Nat} {K : S → Prop} {Q : Exit → Act → World → Prop} {ρ : Nat → Nat} {s : S} {a : Act} {w : World} (hg : Gam c ρ s a w) (hw : s.WF)
    (h : TGi P I c ops mds i K s) : wpOp P ops Q i (Went c K) a w := by
  unfold TGi at h
  cases ho : ops[i]? with
  | none => rw [ho] at h; unfold wpOp; simp only [ho]; exact ⟨ρ, s, hw, hg, h⟩
  | some o => rw [ho] at h; exact TG.sound hI ho hg hw h

theorem aAny.sound (hI : I.Ok P) {mds : List (Nat × Md)} {K : S → Prop} {Q : Exit → Act → World → Prop} (hQ : ∀ a w, Went c K a w → Q .normal a w) :
    ∀ (fuel : Nat) (listed : Array Bool) {ρ : Nat → Nat} {s : S} {a : Act} {w : World}, Gam c ρ s a w → s.WF → aAny P I c ops mds K fuel listed s → wpAny P .any ops Q fuel listed a w
  | 0, _, _, _, _, _, hg, hw, h => ⟨h.1, hQ _ _ ⟨_, _, hw, hg, h.2⟩⟩
  | fuel + 1, _, _, _, _, _, hg, hw, h => ⟨fun h0 => hQ _ _ ⟨_, _, hw, hg, h.1 h0⟩, fun i hi =>
      wpOp_mono (fun _ _ ⟨_, _, hw', hg', h'⟩ => aAny.sound hI hQ fuel _ hg' hw' h') (TGi.sound hI hg hw (h.2 i hi))⟩

variable (ops) in
/-- What is listed has its predecessors listed. -/
def DC (listed : Array Bool) : Prop := ∀ k o, ops[k]? = some o → listed.getD k false = true → ∀ e ∈ o.after, Region.binds .any e = true → listed.getD e.on false = true

theorem getD_set_self {listed : Array Bool} {i j : Nat} (h : (listed.setIfInBounds i true).getD j false = true) : j = i ∨ listed.getD j false = true := by
  by_cases e : i = j
  · exact .inl e.symm
  · rw [getD_set_ne false e] at h; exact .inr h

theorem DC.set {listed : Array Bool} {j : Nat} (h : DC ops listed) (hj : j ∈ Region.ready .any ops listed) : DC ops (listed.setIfInBounds j true) := by
  intro k o ho hk e he hb
  rcases getD_set_self hk with rfl | hk
  · obtain ⟨_, o', ho', hall⟩ := mem_ready.1 hj
    rw [ho] at ho'; cases ho'
    exact getD_set_true (hall e he hb)
  · exact getD_set_true (h k o ho hk e he hb)

theorem aAny.first (hI : I.Ok P) (hs : Region.noSelect ops = true) {mds : List (Nat × Md)} {K : S → Prop} {i : Nat} {oi : Oper} (hi : ops[i]? = some oi) :
    ∀ (fuel : Nat) (listed : Array Bool) (s : S), gamNE c s → s.WF →
      DC ops listed → (∀ j oj listed', DC ops listed' → ops[j]? = some oj → j ≠ i → (∀ k, listed.getD k false = true → listed'.getD k false = true) → listed'.getD i true = false → j ∈ Region.ready .any ops listed' → swapOk ops (mdAt mds i) (mdAt mds j) oi oj = true) →
      i ∈ Region.ready .any ops listed → TGi P I c ops mds i (aAny P I c ops mds K fuel (listed.setIfInBounds i true)) s → aAny P I c ops mds K (fuel + 1) listed s := by
  intro fuel
  induction fuel with
  | zero =>
    intro listed s hne hw _ _ hr H
    refine ⟨fun h => (by rw [h] at hr; cases hr), fun j hj => ?_⟩
    by_cases hji : j = i
    · subst hji; exact H
    · -- then j is still ready behind i: the region's end is not yet
      have hm := ready_mono hj hji
      exfalso
      have : TGi P I c ops mds i (fun _ => False) s := TGi.mono hne hw (fun s' _ _ h => by rw [h.1] at hm; cases hm) H
      obtain ⟨ρ, a, w, hg⟩ := hne
      have hso := TGi.sound (Q := fun _ _ _ => False) hI hg hw this
      unfold wpOp at hso
      simp only [hi] at hso
      have hno : ∀ a' w', ¬ Went c (fun _ => False) a' w' := fun a' w' ⟨_, _, _, _, h⟩ => h
      unfold TGi TG at this
      simp only [hi] at this
      cases hgv : guardV ops oi s with
      | none => rw [hgv] at this; exact this
      | some x =>
        rw [hgv] at this
        cases x with
        | false => exact this ((Gam.ne hg).put _ _) (hw.put (AV.ground_wf uav_ground _) _)
        | true =>
          simp only at this
          unfold TT at this
          cases hk : kd oi <;> simp only [hk] at this
          · obtain ⟨r, h1, h2, _, h5⟩ := this; exact h5 ((Gam.ne hg).put _ _) (hw.put (AV.wf_mono (fun _ => S.live_of_drop) _ h1) _)
          · obtain ⟨M', r, hn, hr, hk'⟩ := (Gam.ne hg).act this; exact hk' hn ((hw.withM M').put (AV.ground_wf hr _) _)
          · obtain ⟨n, h1, h2, h3⟩ := this
            obtain ⟨b, hb, hB, hn⟩ := (Gam.ne hg).new hI h1 h2
            exact h3 b hb hB hn ((hw.withM _).put (AV.ground_wf (hI.new_r h1 b) _) _)
          · obtain ⟨d, T, l, h1, h2, h3, h4, h5⟩ := this; exact h5 ((Gam.ne hg).alloc hI hw h2 h3 h4) (hw.alloc' hI h2 h4)
          · rcases this with ⟨M', _, _, h3, h4⟩ | ⟨n, T, l', h1, h2, h3, h4⟩
            · obtain ⟨w', _, hgr⟩ := h3 ρ a w hg
              exact h4 ⟨_, _, _, hg.grow hgr⟩ (hw.withM M')
            · exact h4 ((Gam.ne hg).store hI h2) (hw.store (hI.store_wf h2 hw))
  | succ fuel ih =>
    intro listed s hne hw hdc hfree hr H
    refine ⟨fun h => (by rw [h] at hr; cases hr), fun j hj => ?_⟩
    by_cases hji : j = i
    · subst hji; exact H
    · obtain ⟨hjun, oj, hoj, hall⟩ := mem_ready.1 hj
      have hiun := (mem_ready.1 hr).1
      have hsw := hfree j oj listed hdc hoj hji (fun _ h => h) hiun hj
      have h1 : TGi P I c ops mds i (TGi P I c ops mds j (aAny P I c ops mds K fuel ((listed.setIfInBounds i true).setIfInBounds j true))) s :=
        TGi.mono hne hw (fun s' _ _ h => h.2 j (ready_mono hj hji)) H
      have h2 : TGi P I c ops mds j (TGi P I c ops mds i (aAny P I c ops mds K fuel ((listed.setIfInBounds j true).setIfInBounds i true))) s := by
        rw [Array.setIfInBounds_comm _ _ hji]
        unfold TGi at h1 ⊢
        simp only [hi, hoj] at h1 ⊢
        exact TG.swap hI (Region.noSelect_spec hs i oi · · hi) (Region.noSelect_spec hs j oj · · hoj) hsw hne hw h1
      refine TGi.mono hne hw (fun s' hne' hw' h3 => ih (listed.setIfInBounds j true) s' hne' hw' (hdc.set hj) (fun k ok listed' hdc' hk hki hsub hun hrk => ?_) (ready_mono hr (Ne.symm hji)) h3) h2
      exact hfree k ok listed' hdc' hk hki (fun q hq => hsub q (getD_set_true hq)) hun hrk

/-! ### All predecessors, as bits -/

def preds (o : Oper) : List Nat := (o.after.toList.filter (Region.binds .any)).map (·.on)
def befStep (acc : List Nat) (o : Oper) : Nat := (preds o).foldl (fun s k => s ||| 2 ^ k ||| acc.getD k 0) 0
def befsL : List Oper → List Nat → List Nat
  | [], acc => acc
  | o :: l, acc => befsL l (acc ++ [befStep acc o])

theorem fold_testBit (f : Nat → Nat) (i : Nat) : ∀ (l : List Nat) (s : Nat), (l.foldl (fun s k => s ||| 2 ^ k ||| f k) s).testBit i = true → s.testBit i = true ∨ ∃ k ∈ l, k = i ∨ (f k).testBit i = true
  | [], s, h => .inl h
  | k :: l, s, h => by
    rw [List.foldl_cons] at h
    rcases fold_testBit f i l _ h with h | ⟨k', hk', h⟩
    · simp only [Nat.testBit_or, Bool.or_eq_true, Nat.testBit_two_pow, decide_eq_true_eq] at h
      rcases h with (h | h) | h
      · exact .inl h
      · exact .inr ⟨k, by simp, .inl h⟩
      · exact .inr ⟨k, by simp, .inr h⟩
    · exact .inr ⟨k', by simp [hk'], h⟩

theorem befsL_prefix : ∀ (l : List Oper) (acc : List Nat), ∃ r, befsL l acc = acc ++ r
  | [], acc => ⟨[], by simp [befsL]⟩
  | o :: l, acc => by
    obtain ⟨r, h⟩ := befsL_prefix l (acc ++ [befStep acc o])
    exact ⟨befStep acc o :: r, by rw [befsL, h]; simp⟩

theorem befsL_get : ∀ (l : List Oper) (acc : List Nat) (j : Nat) (o : Oper), l[j]? = some o →
    (befsL l acc).getD (acc.length + j) 0 = befStep ((befsL l acc).take (acc.length + j)) o
  | [], _, _, _, h => by simp at h
  | o :: l, acc, 0, o', h => by
    simp at h; subst h
    obtain ⟨r, hr⟩ := befsL_prefix l (acc ++ [befStep acc o])
    rw [befsL, hr]
    simp
  | o :: l, acc, j + 1, o', h => by
    simp at h
    have := befsL_get l (acc ++ [befStep acc o]) j o' h
    rw [List.length_append, List.length_singleton, Nat.add_assoc, Nat.add_comm 1 j] at this
    rw [befsL]; exact this

theorem befs_listed {listed : Array Bool} (hdc : DC ops listed) {i : Nat} : ∀ (n j : Nat), j < n → ∀ o, ops[j]? = some o → (∀ e ∈ o.after, Region.binds .any e = true → listed.getD e.on false = true) →
    ((befsL ops.toList []).getD j 0).testBit i = true → listed.getD i false = true
  | 0, _, h, _, _, _, _ => absurd h (by omega)
  | n + 1, j, hj, o, ho, hall, hb => by
    have hg := befsL_get ops.toList [] j o (by simpa using ho)
    simp only [List.length_nil, Nat.zero_add] at hg
    rw [hg, befStep] at hb
    rcases fold_testBit _ i _ _ hb with h | ⟨k, hk, h⟩
    · simp at h
    · obtain ⟨e, he, rfl⟩ := List.mem_map.1 hk
      obtain ⟨he1, he2⟩ := List.mem_filter.1 he
      have hl := hall e (by simpa using he1) he2
      rcases h with h | h
      · rw [← h]; exact hl
      · have hlt : e.on < j := by
          rcases Nat.lt_or_ge e.on j with h' | h'
          · exact h'
          · rw [List.getD_eq_getElem?_getD, List.getElem?_eq_none (by simp; omega)] at h
            simp at h
        have h2 : ((befsL ops.toList []).getD e.on 0).testBit i = true := by
          rw [List.getD_eq_getElem?_getD] at h ⊢
          rwa [List.getElem?_take_of_lt hlt] at h
        have hsz : e.on < ops.size := by
          have := (Array.getElem?_eq_some_iff.1 ho).1; omega
        exact befs_listed hdc n e.on (by omega) ops[e.on] (by simp [hsz]) (fun e' he' hb' => hdc e.on _ (by simp [hsz]) hl e' he' hb') h2

def pairOk (ops : Array Oper) (mds : List (Nat × Md)) (i j : Nat) : Bool :=
  match ops[i]?, ops[j]? with
  | some oi, some oj => swapOk ops (mdAt mds i) (mdAt mds j) oi oj
  | _, _ => false

def chkOrd (ops : Array Oper) (mds : List (Nat × Md)) (bf : List Nat) : List Nat → Array Bool → Bool
  | [], listed => (Region.ready .any ops listed).isEmpty
  | i :: l, listed => (Region.ready .any ops listed).contains i &&
    (List.range ops.size).all (fun j => listed.getD j false || j == i || (bf.getD j 0).testBit i || pairOk ops mds i j) && chkOrd ops mds bf l (listed.setIfInBounds i true)

variable (P I c ops) in
/-- The operations in one order. -/
def runG (mds : List (Nat × Md)) : List Nat → (S → Prop) → S → Prop
  | [], K, s => K s
  | i :: l, K, s => TGi P I c ops mds i (runG mds l K) s

theorem aAny.ofOrd (hI : I.Ok P) (hs : Region.noSelect ops = true) {mds : List (Nat × Md)} {K : S → Prop} : ∀ (l : List Nat) (listed : Array Bool) (s : S), gamNE c s → s.WF → DC ops listed →
    chkOrd ops mds (befsL ops.toList []) l listed = true → runG P I c ops mds l K s → aAny P I c ops mds K l.length listed s
  | [], listed, s, _, _, _, hc, h => ⟨by simpa [chkOrd] using hc, h⟩
  | i :: l, listed, s, hne, hw, hdc, hc, h => by
    simp only [chkOrd, Bool.and_eq_true, List.contains_iff_mem, List.all_eq_true] at hc
    obtain ⟨⟨hr, hall⟩, hc⟩ := hc
    obtain ⟨hiun, oi, hi, _⟩ := mem_ready.1 hr
    refine aAny.first hI hs hi l.length listed s hne hw hdc (fun j oj listed' hdc' hj hji hsub hun hrj => ?_) hr ?_
    · have hjlt : j < ops.size := (Array.getElem?_eq_some_iff.1 hj).1
      have := hall j (List.mem_range.2 hjlt)
      simp only [Bool.or_eq_true, beq_iff_eq] at this
      rcases this with ((h1 | h1) | h1) | h1
      · -- listed already: then in listed' too; but j is ready there
        exfalso
        have hjun := (mem_ready.1 hrj).1
        have h3 := hsub j h1
        rcases Nat.lt_or_ge j listed'.size with h'' | h''
        · simp [h''] at hjun h3; rw [hjun] at h3; cases h3
        · simp [Array.getElem?_eq_none h''] at h3
      · exact absurd h1 hji
      · exfalso
        obtain ⟨_, o', ho', hall'⟩ := mem_ready.1 hrj
        rw [hj] at ho'; cases ho'
        have := befs_listed hdc' (j + 1) j (by omega) oj hj hall' h1
        rcases Nat.lt_or_ge i listed'.size with h'' | h''
        · simp [h''] at hun this; rw [hun] at this; cases this
        · simp [Array.getElem?_eq_none h''] at this
      · unfold pairOk at h1; simp only [hi, hj] at h1; exact h1
    · unfold runG at h
      exact TGi.mono hne hw (fun s' hne' hw' h' => aAny.ofOrd hI hs l _ s' hne' hw' (hdc.set hr) hc h') h

theorem Gam.drew {ρ : Nat → Nat} {s : S} {a : Act} {w : World} (h : Gam c ρ s a w) : Gam c ρ s a { w with drawn := w.drawn + 1 } :=
  ⟨h.tsz, h.tmp, h.defers, h.mem, h.ob, h.inj, ⟨h.fr.os, h.fr.tape, h.fr.output, h.fr.froz, h.fr.size, h.fr.block⟩, h.new⟩

variable (c) in
/-- Behind a region. -/
def Past (K : S → Prop) (e : Exit) (a : Act) (w : World) : Prop := e = .normal ∧ Went c K a w

/-- **One order serves all.** -/
theorem region_draw (hI : I.Ok P) (hm : P.follows .mixedOrders = true) {id : Nat} {mds : List (Nat × Md)} {ord : List Nat} (hs : Region.noSelect ops = true) (hlen : ord.length = ops.size)
    (hc : chkOrd ops mds (befsL ops.toList []) ord (Array.replicate ops.size false) = true) {K : S → Prop} {ρ : Nat → Nat} {s : S} {a : Act} {w : World} (hg : Gam c ρ s a w) (hw : s.WF)
    (h : runG P I c ops mds ord K s) : (Code.region id ops true).wp P (Past c K) a w := by
  refine wp_region_any hm ?_
  have h1 := aAny.ofOrd hI hs ord (Array.replicate ops.size false) s hg.ne hw (fun k o ho hk => by
    have hlt : k < ops.size := (Array.getElem?_eq_some_iff.1 ho).1
    simp [hlt] at hk) hc h
  rw [hlen] at h1
  exact aAny.sound (Q := Past c K) hI (fun _ _ h => ⟨rfl, h⟩) _ _ hg.drew hw h1

/-- A region in the text's order. -/
theorem region_text (hI : I.Ok P) {id : Nat} {mds : List (Nat × Md)} {K : S → Prop} {ρ : Nat → Nat} {s : S} {a : Act} {w : World} (hg : Gam c ρ s a w) (hw : s.WF)
    (h : runG P I c ops mds (List.range ops.size) K s) : (Code.region id ops false).wp P (Past c K) a w := by
  refine wp_region ?_
  have key : ∀ (l : List Nat) {ρ : Nat → Nat} {s : S} {a : Act} {w : World}, Gam c ρ s a w → s.WF → runG P I c ops mds l K s → wpOps P ops (Past c K) l a w := by
    intro l
    induction l with
    | nil => intro ρ s a w hg hw h; exact ⟨rfl, ρ, s, hw, hg, h⟩
    | cons i l ih =>
      intro ρ s a w hg hw h
      rw [wpOps_cons]
      exact wpOp_mono (fun _ _ ⟨_, _, hw', hg', h'⟩ => ih hg' hw' h') (TGi.sound hI hg hw h)
  exact key _ hg hw h

end
end Go.SX

/- How the syntax of an operation is read: what it comes to in an abstract state. Generic over the program; what the program's types are is asked of it. -/
namespace Go.SX

structure FI where
  off : Nat
  size : Nat
  agg : Bool
  ok : Bool

inductive TK where
  | int (k : IntKind)
  | bool
  | str
  | ptr (e : Nat)
  | slice (e : Nat)
  | struct (fs : List FI)
  | arr (n e : Nat)
  | other

def TK.agg : TK → Bool
  | .struct _ | .arr _ _ => true
  | _ => false

structure TI where
  size : Nat
  bytes : Nat
  zero : List AV
  k : TK

def aggD : Option TypeDesc → Bool
  | some (.struct _) | some (.array _ _) => true
  | _ => false

def tkOf (P : Program) : Option TypeDesc → TK
  | some (.int k) => .int k
  | some .bool => .bool
  | some .string => .str
  | some (.pointer e) => .ptr e
  | some (.slice e) => .slice e
  | some (.struct fs) => .struct (fs.toList.map fun f => ⟨f.offset, P.cellsOf f.type, aggD (P.underlying f.type), (P.underlying f.type).isSome⟩)
  | some (.array n e) => .arr n e
  | _ => .other

/-- What the types' table says is what the program has. -/
structure TyOk (P : Program) (t : Nat) (i : TI) : Prop where
  info : (P.info? t).map (fun x => (x.size, x.bytes, x.zero.map (·.cells.toList))) = some (i.size, i.bytes, some (AV.denL (fun _ => 0) i.zero))
  kind : tkOf P (P.underlying t) = i.k
  und : (P.underlying t).isSome = true
  ground : i.zero.all AV.ground = true

/-- The types of which two values are compared cell by cell, all of them integers. -/
def mkInts : List IntKind → List Int → List Value
  | k :: ks, n :: ns => .int k n :: mkInts ks ns
  | _, _ => []

structure Tbl where
  ty : Nat → Option TI
  eqk : Nat → Option (List IntKind)

structure TblOk (P : Program) (T : Tbl) : Prop where
  ty : ∀ t i, T.ty t = some i → TyOk P t i
  eqk : ∀ t ks, T.eqk t = some ks → P.eqGuardType P.depth t = false ∧ ∀ xs ys : List Int, xs.length = ks.length → ys.length = ks.length → ∀ w, (Op.equal t (.agg (mkInts ks xs).toArray) (.agg (mkInts ks ys).toArray)).run P w = .ok (decide (xs = ys)) w

/-! ### Values -/

def AV.ofB : Bool → AV
  | true => .tt
  | false => .ff

def AV.asI : AV → Option (IntKind × (Unit → Int))
  | .int k n => some (k, fun _ => n)
  | .sym k n => some (k, n)
  | _ => none

def AV.cellsA : AV → Option (List AV)
  | .agg l => some l
  | .any | .v _ | .tup _ => none
  | x => some [x]

/-- One cell's. -/
def AV.one : AV → Bool
  | .any | .v _ | .tup _ | .agg _ => false
  | _ => true

def cmpF (op : BinOp) (a b : Int) : Option Bool :=
  match op with
  | .eql => some (decide (a = b))
  | .neq => some (decide (a ≠ b))
  | .lss => some (decide (a < b))
  | .leq => some (decide (a ≤ b))
  | .gtr => some (decide (b < a))
  | .geq => some (decide (b ≤ a))
  | _ => none

def cmpS (op : BinOp) (a b : Unit → Int) : Option AV :=
  match op with
  | .eql => some (.sb fun _ => decide (a () = b ()))
  | .neq => some (.sb fun _ => decide (a () ≠ b ()))
  | .lss => some (.sb fun _ => decide (a () < b ()))
  | .leq => some (.sb fun _ => decide (a () ≤ b ()))
  | .gtr => some (.sb fun _ => decide (b () < a ()))
  | .geq => some (.sb fun _ => decide (b () ≤ a ()))
  | _ => none

def AV.lit : AV → Option (IntKind × Int)
  | .int k n => some (k, n)
  | _ => none

def cmpA (op : BinOp) (x y : AV) : Option AV :=
  match x.lit, y.lit with
  | some (k, a), some (k', b) => if k = k' then (cmpF op a b).map AV.ofB else none
  | _, _ =>
    match x.asI, y.asI with
    | some (k, a), some (k', b) => if k = k' then cmpS op a b else none
    | _, _ => none

/-- The integers of a struct's cells; and whether all are literals. -/
def intsA : List IntKind → List AV → Option (List (Unit → Int))
  | [], [] => some []
  | k :: ks, x :: l =>
    match x.asI with
    | some (k', n) => if k = k' then (intsA ks l).map (n :: ·) else none
    | none => none
  | _, _ => none

def litsA : List AV → Option (List Int)
  | [] => some []
  | .int _ n :: l => (litsA l).map (n :: ·)
  | _ :: _ => none

def appU : List (Unit → Int) → List Int
  | [] => []
  | f :: l => f () :: appU l

def eqA (ks : List IntKind) (neg : Bool) (x y : List AV) : Option AV :=
  match intsA ks x, intsA ks y with
  | some a, some b =>
    match litsA x, litsA y with
    | some m, some n => some (AV.ofB (decide (m = n) != neg))
    | _, _ => some (if neg then .sb fun _ => !decide (appU a = appU b) else .sb fun _ => decide (appU a = appU b))
  | _, _ => none

def boolA (neg : Bool) (x y : AV) : Option AV :=
  match x, y with
  | .tt, .tt | .ff, .ff => some (AV.ofB (!neg))
  | .tt, .ff | .ff, .tt => some (AV.ofB neg)
  | .sb b, .tt => some (if neg then .sb (fun _ => !b ()) else .sb b)
  | .sb b, .ff => some (if neg then .sb b else .sb (fun _ => !b ()))
  | .sb b, .sb d => some (if neg then .sb (fun _ => b () != d ()) else .sb (fun _ => b () == d ()))
  | .tt, .sb b => some (if neg then .sb (fun _ => !b ()) else .sb b)
  | .ff, .sb b => some (if neg then .sb b else .sb (fun _ => !b ()))
  | _, _ => none

/-- Arithmetic on literals. -/
def litF (op : BinOp) (k : IntKind) (a b : Int) : Option Int :=
  match op with
  | .add => some (k.wrap (a + b))
  | .sub => some (k.wrap (a - b))
  | .mul => some (k.wrap (a * b))
  | _ => none

def isCmp : BinOp → Bool
  | .eql | .neq | .lss | .leq | .gtr | .geq => true
  | _ => false

/-- A slice and nil. -/
def nilA : AV → AV → Option AV
  | .slice a _ _, .nils => some (.sb fun _ => (a ()).isNone)
  | .nils, .nils => some .tt
  | _, _ => none

def binA (T : Tbl) (op : BinOp) (t : Nat) (x y : AV) : Option AV :=
  if isCmp op then
    match x, y with
    | .agg l, .agg m =>
      match T.eqk t, op with
      | some ks, .eql => eqA ks false l m
      | some ks, .neq => eqA ks true l m
      | _, _ => none
    | x, y =>
      match (T.ty t).map TI.k, op with
      | some .bool, .eql => boolA false x y
      | some .bool, .neq => boolA true x y
      | some (.slice _), .eql => nilA x y
      | _, _ => cmpA op x y
  else
    match x.lit, y.lit with
    | some (k, a), some (k', b) => if k = k' then (litF op k a b).map (.int k) else none
    | _, _ => none

def spliceA (c : List AV) (off : Nat) (v : List AV) : List AV := c.take off ++ v ++ c.drop (off + v.length)

def buildA (fs : List FI) : List AV → List (Nat × AV) → Option (List AV)
  | c, [] => some c
  | c, (i, x) :: r =>
    match fs[i]?, x.cellsA with
    | some f, some l => if l.length = f.size ∧ f.off + f.size ≤ c.length then buildA fs (spliceA c f.off l) r else none
    | _, _ => none

def AV.known : AV → Bool
  | .any => false
  | _ => true

/-- n elements of so many cells. -/
def repL (n : Nat) (z : List AV) : List AV :=
  match n with
  | 0 => []
  | n + 1 => z ++ repL n z

def fillA (sz : Nat) : List AV → List (Nat × AV) → Option (List AV)
  | c, [] => some c
  | c, (i, x) :: r =>
    match x.cellsA with
    | some l => if l.length = sz ∧ i * sz + sz ≤ c.length then fillA sz (spliceA c (i * sz) l) r else none
    | none => none

/-- The value of an operation that hangs on its operands and on local variables alone. -/
def valF (T : Tbl) (op : Op) (ev : Operand → AV) (ob : Nat → Ob) : Option AV :=
  match op with
  | .move x | .assign x => some (ev x)
  | .pick c a b =>
    match ev c with
    | .tt => some (ev a)
    | .ff => some (ev b)
    | _ => none
  | .load t a =>
    match ev a with
    | .ptr id off =>
      match ob id, T.ty t with
      | .cells _ c, some i =>
        if i.k.agg then
          let l := (c.drop off).take i.size
          if l.length = i.size then some (if AV.sureL l then .agg l else .any) else none
        else c[off]?
      | _, _ => none
    | _ => none
  | .fieldAddr t x i =>
    match (T.ty t).map TI.k with
    | some (.struct fs) =>
      match fs[i]?, ev x with
      | some f, .ptr id off => if f.size = 0 then none else some (.ptr id (off + f.off))
      | some f, .el b o => if f.size = 0 then none else some (.el b fun _ => o () + f.off)
      | _, _ => none
    | _ => none
  | .field t x i =>
    match (T.ty t).map TI.k with
    | some (.struct fs) =>
      match fs[i]?, ev x with
      | some f, .agg l =>
        if f.agg then
          let m := (l.drop f.off).take f.size
          if f.size ≠ 0 ∧ f.off + f.size ≤ l.length then some (.agg m) else none
        else if f.ok then l[f.off]? else none
      | _, _ => none
    | _ => none
  | .extract x i =>
    match ev x with
    | .tup l => l[i]?
    | _ => none
  | .unOp .not _ x =>
    match ev x with
    | .tt => some .ff
    | .ff => some .tt
    | .sb b => some (.sb fun _ => !b ())
    | _ => none
  | .binOp op t x y _ => binA T op t (ev x) (ev y)
  | .convert src dst x =>
    match ev x, (T.ty src).isSome, (T.ty dst).map TI.k with
    | .int _ n, true, some (.int k) => some (.int k (k.wrap n))
    | _, _, _ => none
  | .makeFunc fn first cap =>
    let f := first.toList.map ev
    let c := cap.toList.map ev
    if AV.sureL f && AV.sureL c then some (.clo fn f c) else none
  | .nilCheck x =>
    match ev x with
    | .ptr id off => some (.ptr id off)
    | .el b o => some (.el b o)
    | .clo (.func f) a b => some (.clo (.func f) a b)
    | _ => none
  | .build t parts =>
    match T.ty t with
    | some i =>
      match i.k with
      | .struct fs =>
        if fs.all (fun f => decide (f.size ≠ 0)) then
        match buildA fs i.zero (parts.toList.map fun (i, x) => (i, ev x)) with
        | some l => some (if AV.sureL l then .agg l else .any)
        | none => none
        else none
      | .arr _ e =>
        match T.ty e with
        | some ie =>
          match fillA ie.size i.zero (parts.toList.map fun (i, x) => (i, ev x)) with
          | some l => some (if AV.sureL l then .agg l else .any)
          | none => none
        | none => none
      | _ => none
    | none => none
  | .call { callee := .builtin .len, args, argTypes } =>
    match args.toList, argTypes.toList with
    | [x], [t] =>
      match (T.ty t).map TI.k, ev x with
      | some (.slice _), .slice _ n _ => some (.sym .i64 fun _ => (n () : Int))
      | some (.slice _), .nils => some (.int .i64 0)
      | _, _ => none
    | _, _ => none
  | _ => none

def allocF (T : Tbl) (op : Op) (ev : Operand → AV) : Option (Nat × List AV) :=
  match op with
  | .alloc t => (T.ty t).map fun i => (t, i.zero)
  | .box t x => (ev x).cellsA.map fun l => (t, l)
  | _ => none

def storeF (T : Tbl) (op : Op) (ev : Operand → AV) (ob : Nat → Ob) : Option (Nat × Nat × List AV) :=
  match op with
  | .store t a x =>
    match ev a with
    | .ptr id off =>
      match ob id, T.ty t with
      | .cells U c, some i =>
        match (ev x).cellsA with
        | some l => if l.length = i.size ∧ off + l.length ≤ c.length ∧ l.all AV.one then some (id, U, spliceA c off l) else none
        | none => none
      | _, _ => none
    | _ => none
  | _ => none

def newF (T : Tbl) (op : Op) (ev : Operand → AV) : Option NewI :=
  match op with
  | .buildSlice t n parts =>
    match (T.ty t).map TI.k with
    | some (.slice e) =>
      match T.ty e with
      | some i =>
        match fillA i.size (repL n i.zero) (parts.toList.map fun (i, x) => (i, ev x)) with
        | some l =>
          if AV.sureL l && AV.wfL (fun _ => false) l && decide (n * i.size ≤ 16777216) && decide (i.size ≠ 0) && decide (i.zero.length = i.size) then
            some { T := e, N := fun _ => n * i.size, cells := l, more := fun _ => [], r := fun b => .slice (fun _ => some ⟨b, 0, none⟩) (fun _ => n) (fun _ => n), side := fun _ => True }
          else none
        | none => none
      | none => none
    | _ => none
  | .makeSlice t l c =>
    match (T.ty t).map TI.k with
    | some (.slice e) =>
      match T.ty e, (ev l).asI, (ev c).asI with
      | some i, some (_, n), some (_, m) =>
        some { T := e, N := fun _ => (m ()).toNat * i.size, cells := [], more := fun _ => (madeCells (AV.denL (fun _ => 0) i.zero).toArray ((m ()).toNat * i.size)).toList, r := fun b => .slice (fun _ => some ⟨b, 0, none⟩) (fun _ => (n ()).toNat) (fun _ => (m ()).toNat),
               side := fun _ => 0 ≤ n () ∧ n () ≤ m () ∧ m () * i.bytes ≤ 281474976710656 ∧ m () ≤ 9223372036854775807 }
      | _, _, _ => none
    | _ => none
  | _ => none

def info (T : Tbl) : Info where
  alloc o s := allocF T o.op s.eval
  store o s := storeF T o.op s.eval s.ob
  new o s := newF T o.op s.eval
  val o s := valF T o.op s.eval s.ob

end Go.SX

/- The reading of the syntax is sound. Generic over the program. -/
namespace Go.SX

section
variable {P : Program} {T : Tbl} {c : Ct} {ρ : Nat → Nat} {s : S} {a : Act} {w : World}

theorem Den.out {x : AV} {v : Value} (h : Den ρ x v) (hx : x ≠ .any) : v = x.den ρ := h.resolve_left hx

theorem AV.cellsA_den {x : AV} {l : List AV} {v : Value} (h : x.cellsA = some l) (hd : Den ρ x v) : v.cells = (AV.denL ρ l).toArray := by
  have hx : x ≠ .any := fun e => by subst e; simp [AV.cellsA] at h
  have e := hd.out hx
  cases x <;> simp [AV.cellsA] at h <;> subst h <;> subst e <;> simp [AV.den, AV.denL, Value.cells]

theorem AV.cellsA_wf {x : AV} {l : List AV} (p : Nat → Bool) (h : x.cellsA = some l) (hx : x.wf p = true) : AV.wfL p l = true := by
  cases x <;> simp [AV.cellsA] at h <;> subst h <;> simp_all [AV.wf, AV.wfL]

/-! ### Types -/

theorem TyOk.und' {t : Nat} {i : TI} (h : TyOk P t i) : ∃ d, P.underlying t = some d ∧ tkOf P (some d) = i.k := by
  obtain ⟨d, hd⟩ := Option.isSome_iff_exists.1 h.und
  exact ⟨d, hd, hd ▸ h.kind⟩

theorem TyOk.run_isAgg {t : Nat} {i : TI} (h : TyOk P t i) : (isAgg t).run P w = .ok i.k.agg w := by
  obtain ⟨d, hd, hk⟩ := h.und'
  rw [← hk]
  cases d <;> simp [isAgg, run_underlying hd, tkOf, TK.agg]

theorem TyOk.info' {t : Nat} {i : TI} (h : TyOk P t i) : ∃ x z, P.info? t = some x ∧ x.size = i.size ∧ x.bytes = i.bytes ∧ x.zero = some z ∧ z.cells.toList = AV.denL (fun _ => 0) i.zero := by
  have := h.info
  cases hx : P.info? t with
  | none => simp [hx] at this
  | some x =>
    simp only [hx, Option.map_some, Option.some.injEq, Prod.mk.injEq] at this
    obtain ⟨h1, h2, h3⟩ := this
    cases hz : x.zero with
    | none => simp [hz] at h3
    | some z => simp only [hz, Option.map_some, Option.some.injEq] at h3; exact ⟨x, z, rfl, h1, h2, hz, h3⟩

theorem TyOk.run_sizeOf {t : Nat} {i : TI} (h : TyOk P t i) : (sizeOf t).run P w = .ok i.size w := by
  obtain ⟨x, z, h1, h2, _⟩ := h.info'
  simp [sizeOf, typeInfo, h1, h2]

theorem TyOk.run_zeroValue {t : Nat} {i : TI} (h : TyOk P t i) : ∃ z, (zeroValue t).run P w = .ok z w ∧ z.cells.toList = AV.denL (fun _ => 0) i.zero := by
  obtain ⟨x, z, h1, _, _, h4, h5⟩ := h.info'
  exact ⟨z, by simp [zeroValue, typeInfo, h1, h4], h5⟩

theorem zero_den {t : Nat} {i : TI} (h : TyOk P t i) (ρ : Nat → Nat) : AV.denL ρ i.zero = AV.denL (fun _ => 0) i.zero := by
  refine AV.denL_congr (p := fun _ => false) (fun i hi => by cases hi) _ ?_
  rw [AV.wfL_eq, List.all_eq_true]
  intro x hx
  exact AV.ground_wf (List.all_eq_true.1 h.ground x hx) _

theorem zero_wf {t : Nat} {i : TI} (h : TyOk P t i) (p : Nat → Bool) : AV.wfL p i.zero = true := by
  rw [AV.wfL_eq, List.all_eq_true]
  intro x hx
  exact AV.ground_wf (List.all_eq_true.1 h.ground x hx) p

theorem tk_int {d : Option TypeDesc} {k : IntKind} (h : tkOf P d = .int k) : d = some (.int k) := by
  cases d with
  | none => simp [tkOf] at h
  | some d => cases d <;> simp [tkOf] at h; subst h; rfl
theorem tk_bool {d : Option TypeDesc} (h : tkOf P d = .bool) : d = some .bool := by
  cases d with
  | none => simp [tkOf] at h
  | some d => cases d <;> simp [tkOf] at h; rfl
theorem tk_str {d : Option TypeDesc} (h : tkOf P d = .str) : d = some .string := by
  unfold tkOf at h
  split at h <;> first | rfl | cases h
theorem tk_slice {d : Option TypeDesc} {e : Nat} (h : tkOf P d = .slice e) : d = some (.slice e) := by
  cases d with
  | none => simp [tkOf] at h
  | some d => cases d <;> simp [tkOf] at h; subst h; rfl
theorem tk_arr {d : Option TypeDesc} {n e : Nat} (h : tkOf P d = .arr n e) : d = some (.array n e) := by
  cases d with
  | none => simp [tkOf] at h
  | some d => cases d <;> simp [tkOf] at h; obtain ⟨rfl, rfl⟩ := h; rfl
theorem tk_struct {d : Option TypeDesc} {fs : List FI} (h : tkOf P d = .struct fs) : ∃ f : Array Field, d = some (.struct f) ∧ fs = f.toList.map fun f => ⟨f.offset, P.cellsOf f.type, aggD (P.underlying f.type), (P.underlying f.type).isSome⟩ := by
  cases d with
  | none => simp [tkOf] at h
  | some d => cases d <;> simp [tkOf] at h; exact ⟨_, rfl, h.symm⟩

theorem cellsOf_size {t n : Nat} (h : P.cellsOf t = n) (hn : n ≠ 0) : (sizeOf t).run P w = .ok n w := by
  unfold Program.cellsOf at h
  cases hx : P.info? t with
  | none => simp [hx] at h; omega
  | some x => simp [hx] at h; simp [sizeOf, typeInfo, hx, h]

theorem aggD_run {t : Nat} (h : (P.underlying t).isSome = true) : (isAgg t).run P w = .ok (aggD (P.underlying t)) w := by
  obtain ⟨d, hd⟩ := Option.isSome_iff_exists.1 h
  cases d <;> simp [isAgg, run_underlying hd, aggD, hd]

theorem und_of_cells {t : Nat} (h : aggD (P.underlying t) = true) : (P.underlying t).isSome = true := by
  cases hd : P.underlying t with
  | none => simp [hd, aggD] at h
  | some d => rfl

/-! ### Cells of local variables -/

theorem ob_cell (hg : Gam c ρ s a w) {id U : Nat} {l : List AV} (ho : s.ob id = .cells U l) :
    ∃ cs : List Value, w.heap[ρ id]? = some (.cells cs.toArray U (0, 0)) ∧ DenL ρ l cs ∧ ∀ o, w.cell? ⟨ρ id, o, none⟩ = cs[o]? := by
  obtain ⟨cs, h1, h2, _⟩ := hg.ob id U l ho
  exact ⟨cs, h1, h2, fun o => by simp [World.cell?, h1]⟩

theorem addr_add (b o j : Nat) : (⟨b, o, none⟩ : Addr).add j = ⟨b, o + j, none⟩ := by unfold Addr.add; split <;> simp_all

theorem run_loadVar_cell {t : Nat} {i : TI} (h : TyOk P t i) (hk : i.k.agg = false) {b o : Nat} {v : Value} (hc : w.cell? ⟨b, o, none⟩ = some v) : (loadVar t ⟨b, o, none⟩).run P w = .ok v w := by
  simp [loadVar, h.run_isAgg, hk, hc]

theorem run_loadVar_agg {t : Nat} {i : TI} (h : TyOk P t i) (hk : i.k.agg = true) {b o : Nat} {l : List Value} (hl : l.length = i.size) (hc : ∀ j v, l[j]? = some v → w.cell? ⟨b, o + j, none⟩ = some v) :
    (loadVar t ⟨b, o, none⟩).run P w = .ok (.agg l.toArray) w := by
  have := run_loadCells_list (P := P) w ⟨b, o, none⟩ l (fun j v hv => by rw [addr_add]; exact hc j v hv)
  simp [loadVar, h.run_isAgg, hk, h.run_sizeOf, ← hl, this]

/-! ### Comparisons -/

theorem AV.asI_den {x : AV} {k : IntKind} {n : Unit → Int} (h : x.asI = some (k, n)) : x ≠ .any ∧ x.den ρ = .int k (n ()) := by
  cases x <;> simp [AV.asI] at h <;> obtain ⟨rfl, rfl⟩ := h <;> simp [AV.den]

theorem cmpF_run {op : BinOp} {k : IntKind} {x y : Int} {r : Bool} (h : cmpF op x y = some r) {t : Nat} : (binOp op t (.int k x) (.int k y)).run P w = .ok (.bool r) w := by
  have hne : (x != y) = decide (x ≠ y) := by by_cases h : x = y <;> simp [h]
  cases op <;> simp only [cmpF, reduceCtorEq] at h <;> cases h
  · simp [binOp, Op.intCmp]; rfl
  · simp only [binOp, Op.intCmp, hne]; simp
  · simp [binOp, Op.intCmp]
  · simp [binOp, Op.intCmp]
  · simp [binOp, Op.intCmp]
  · simp only [binOp, Op.intCmp]; simp

theorem AV.ofB_den (b : Bool) : (AV.ofB b).den ρ = .bool b := by cases b <;> rfl
theorem AV.ofB_wf (b : Bool) (p : Nat → Bool) : (AV.ofB b).wf p = true := by cases b <;> rfl

theorem AV.lit_den {x : AV} {k : IntKind} {n : Int} (h : x.lit = some (k, n)) : x ≠ .any ∧ x.den ρ = .int k n := by
  cases x <;> simp [AV.lit] at h; obtain ⟨rfl, rfl⟩ := h; simp [AV.den]

theorem cmpA_sound {op : BinOp} {x y r : AV} {u v : Value} (h : cmpA op x y = some r) (hx : Den ρ x u) (hy : Den ρ y v) (t : Nat) : ∃ z, (binOp op t u v).run P w = .ok z w ∧ Den ρ r z := by
  unfold cmpA at h
  split at h
  · rename_i h1 h2
    obtain ⟨e1, d1⟩ := AV.lit_den (ρ := ρ) h1
    obtain ⟨e2, d2⟩ := AV.lit_den (ρ := ρ) h2
    rw [hx.out e1, hy.out e2, d1, d2]
    split at h
    · rename_i e
      subst e
      obtain ⟨z, hz, rfl⟩ := Option.map_eq_some_iff.1 h
      exact ⟨_, cmpF_run hz, .inr (AV.ofB_den z).symm⟩
    · cases h
  · split at h
    · rename_i h1 h2
      obtain ⟨e1, d1⟩ := AV.asI_den (ρ := ρ) h1
      obtain ⟨e2, d2⟩ := AV.asI_den (ρ := ρ) h2
      rw [hx.out e1, hy.out e2, d1, d2]
      split at h
      · rename_i e
        subst e
        unfold cmpS at h
        cases op <;> simp only [reduceCtorEq] at h <;> cases h <;> exact ⟨_, cmpF_run rfl, .inr rfl⟩
      · cases h
    · cases h

theorem intsA_spec : ∀ {ks : List IntKind} {l : List AV} {ns : List (Unit → Int)}, intsA ks l = some ns → AV.denL ρ l = mkInts ks (appU ns) ∧ (appU ns).length = ks.length
  | [], [], ns, h => by simp [intsA] at h; subst h; exact ⟨rfl, rfl⟩
  | k :: ks, x :: l, ns, h => by
    simp only [intsA] at h
    cases hx : x.asI with
    | none => simp [hx] at h
    | some p =>
      obtain ⟨k', n⟩ := p
      simp only [hx] at h
      split at h
      · rename_i e; subst e
        cases hr : intsA ks l with
        | none => simp [hr] at h
        | some ms =>
          simp [hr] at h; subst h
          obtain ⟨h1, h2⟩ := intsA_spec hr
          exact ⟨by simp [AV.denL, appU, mkInts, h1, (AV.asI_den (ρ := ρ) hx).2], by simp [appU, h2]⟩
      · cases h
  | [], _ :: _, _, h => by simp [intsA] at h
  | _ :: _, [], _, h => by simp [intsA] at h

theorem litsA_spec : ∀ {ks : List IntKind} {l : List AV} {ns : List (Unit → Int)} {ms : List Int}, intsA ks l = some ns → litsA l = some ms → appU ns = ms
  | [], [], ns, ms, h, h' => by simp [intsA] at h; simp [litsA] at h'; subst h; subst h'; rfl
  | k :: ks, x :: l, ns, ms, h, h' => by
    simp only [intsA] at h
    cases x <;> simp [litsA] at h'
    rename_i k' n
    simp only [AV.asI] at h
    split at h
    · cases hr : intsA ks l with
      | none => simp [hr] at h
      | some q =>
        cases hl : litsA l with
        | none => simp [hl] at h'
        | some m => simp [hr] at h; simp [hl] at h'; subst h; subst h'; simp [appU, litsA_spec hr hl]
    · cases h
  | [], _ :: _, _, _, h, _ => by simp [intsA] at h
  | _ :: _, [], _, _, h, _ => by simp [intsA] at h

theorem eqA_sound (hT : TblOk P T) {t : Nat} {ks : List IntKind} (hk : T.eqk t = some ks) {neg : Bool} {x y : List AV} {r : AV} (h : eqA ks neg x y = some r) :
    (binOp (if neg then .neq else .eql) t (.agg (AV.denL ρ x).toArray) (.agg (AV.denL ρ y).toArray)).run P w = .ok (r.den ρ) w ∧ r ≠ .any := by
  unfold eqA at h
  split at h
  · rename_i m n hm hn
    obtain ⟨e1, l1⟩ := intsA_spec (ρ := ρ) hm
    obtain ⟨e2, l2⟩ := intsA_spec (ρ := ρ) hn
    have hrun := (hT.eqk t ks hk).2 (appU m) (appU n) l1 l2 w
    rw [e1, e2]
    have hb : ∀ b : Bool, (binOp (if neg then .neq else .eql) t (.agg (mkInts ks (appU m)).toArray) (.agg (mkInts ks (appU n)).toArray)).run P w = .ok (.bool (decide (appU m = appU n) != neg)) w := fun _ => by
      cases neg <;> simp [binOp, hrun]
    rw [hb true]
    split at h
    · rename_i p q hp hq
      cases h
      rw [AV.ofB_den, litsA_spec hm hp, litsA_spec hn hq]
      exact ⟨rfl, by unfold AV.ofB; split <;> simp⟩
    · cases h
      cases neg <;> simp [AV.den]
  · cases h

theorem boolA_sound {neg : Bool} {x y r : AV} (h : boolA neg x y = some r) {t : Nat} (ht : P.underlying t = some .bool) : (binOp (if neg then .neq else .eql) t (x.den ρ) (y.den ρ)).run P w = .ok (r.den ρ) w ∧ r ≠ .any ∧ x ≠ .any ∧ y ≠ .any := by
  have key : ∀ a b : Bool, (binOp (if neg then .neq else .eql) t (.bool a) (.bool b)).run P w = .ok (.bool ((a == b) != neg)) w := fun a b => by
    cases neg <;> simp [binOp, run_equal_bool w t a b ht]
  unfold boolA at h
  split at h <;> first
    | (cases h; done)
    | (obtain rfl := Option.some.inj h
       simp only [AV.den, key]
       refine ⟨?_, ?_, by simp, by simp⟩
       · cases neg <;> simp [AV.ofB, AV.den, bne]
       · cases neg <;> simp [AV.ofB])

theorem litF_run {op : BinOp} {k : IntKind} {x y z : Int} (h : litF op k x y = some z) {t : Nat} : (binOp op t (.int k x) (.int k y)).run P w = .ok (.int k z) w := by
  cases op <;> simp [litF] at h <;> subst h <;> simp [binOp, Op.intArith]

end
end Go.SX

/- The reading of the syntax is sound, 2: values, allocations, stores, new rows. Generic over the program. -/
namespace Go.SX

section
variable {P : Program} {T : Tbl} {c : Ct} {ρ : Nat → Nat} {s : S} {a : Act} {w : World}

/-- A list laid over another one from a place on. -/
def spliceV (c : List Value) (off : Nat) (v : List Value) : List Value := c.take off ++ v ++ c.drop (off + v.length)

theorem length_spliceV {c v : List Value} {off : Nat} (h : off + v.length ≤ c.length) : (spliceV c off v).length = c.length := by
  simp only [spliceV, List.length_append, List.length_take, List.length_drop]; omega

theorem length_spliceA {c v : List AV} {off : Nat} (h : off + v.length ≤ c.length) : (spliceA c off v).length = c.length := by
  simp only [spliceA, List.length_append, List.length_take, List.length_drop]; omega

theorem fold_set : ∀ (l : List Value) (k off : Nat) (cs : Array Value), off + k + l.length ≤ cs.size →
    (l.zipIdx k).foldl (fun cs (p : Value × Nat) => cs.setIfInBounds (off + p.2) p.1) cs = (cs.toList.take (off + k) ++ l ++ cs.toList.drop (off + k + l.length)).toArray
  | [], k, off, cs, _ => by simp [List.zipIdx, List.take_append_drop]
  | v :: l, k, off, cs, h => by
    rw [List.zipIdx_cons, List.foldl_cons, fold_set l (k + 1) off _ (by simp at h ⊢; omega)]
    congr 1
    have e := list_seg_step cs.toList (off + k) v l (by simp at h ⊢; omega)
    simpa [Array.toList_setIfInBounds, Nat.add_assoc] using e

theorem fold_set' (v : Value) (off : Nat) (cs : Array Value) (h : off + v.cells.size ≤ cs.size) :
    (v.cells.zipIdx.foldl (fun cs (p : Value × Nat) => cs.setIfInBounds (off + p.2) p.1) cs) = (spliceV cs.toList off v.cells.toList).toArray := by
  have h0 : v.cells.zipIdx = (v.cells.toList.zipIdx 0).toArray := by
    apply Array.ext'
    simp [Array.toList_zipIdx]
  rw [h0, List.foldl_toArray]
  have := fold_set v.cells.toList 0 off cs (by simpa using h)
  simpa [spliceV] using this

theorem spliceA_den (c v : List AV) (off : Nat) : AV.denL ρ (spliceA c off v) = spliceV (AV.denL ρ c) off (AV.denL ρ v) := by
  simp [AV.denL_eq, spliceA, spliceV, List.map_append, List.map_take, List.map_drop]

theorem DenL.splice {c v : List AV} {cs vs : List Value} (h : DenL ρ c cs) (h' : DenL ρ v vs) (off : Nat) : DenL ρ (spliceA c off v) (spliceV cs off vs) := by
  have hl := h'.length
  unfold spliceA spliceV
  rw [hl]
  exact ((h.take off).append h').append (h.drop _)

theorem spliceA_wf (p : Nat → Bool) {c v : List AV} (off : Nat) (h : AV.wfL p c = true) (h' : AV.wfL p v = true) : AV.wfL p (spliceA c off v) = true := by
  rw [AV.wfL_eq] at *
  simp only [spliceA, List.all_append, Bool.and_eq_true]
  exact ⟨⟨by rw [List.all_eq_true] at *; exact fun x hx => h x (List.mem_of_mem_take hx), h'⟩, by rw [List.all_eq_true] at *; exact fun x hx => h x (List.mem_of_mem_drop hx)⟩

/-! ### build, buildSlice -/

theorem fill_build {fs : List FI} {places : List (Nat × Nat)} (hp : ∀ (i : Nat) (f : FI), fs[i]? = some f → places[i]? = some (f.off, f.size)) (ev : Operand → AV) (ρa : Operand → Value) (hev : ∀ x, Den ρ (ev x) (ρa x)) :
    ∀ (parts : List (Nat × Operand)) (c : List AV) (l : List AV), buildA fs c (parts.map fun p => (p.1, ev p.2)) = some l →
      Instr.fill (fun x => places[x]?) (AV.denL ρ c).toArray (parts.map fun p => (p.1, ρa p.2)) = some (AV.denL ρ l).toArray
  | [], c, l, h => by simp [buildA] at h; subst h; rfl
  | (i, x) :: r, c, l, h => by
    simp only [List.map_cons, buildA] at h
    cases hf : fs[i]? with
    | none => simp [hf] at h
    | some f =>
      cases hx : (ev x).cellsA with
      | none => simp [hf, hx] at h
      | some m =>
        simp only [hf, hx] at h
        split at h
        · rename_i hc
          obtain ⟨hc1, hc2⟩ := hc
          have hcells := AV.cellsA_den hx (hev x)
          have hlen : (AV.denL ρ m).length = f.size := by rw [AV.denL_eq, List.length_map]; exact hc1
          have hcl : (AV.denL ρ c).length = c.length := by rw [AV.denL_eq, List.length_map]
          have hsz : (ρa x).cells.size = f.size := by rw [hcells]; simpa using hlen
          simp only [List.map_cons, Instr.fill, hp i f hf]
          rw [if_neg (by simp only [hsz]; simp [hcl]; omega)]
          rw [fold_set' _ _ _ (by rw [hsz]; simp [hcl]; omega), hcells]
          have := fill_build hp ev ρa hev r (spliceA c f.off m) l h
          rw [spliceA_den] at this
          exact this
        · cases h

theorem fill_slice {sz : Nat} (ev : Operand → AV) (ρa : Operand → Value) (hev : ∀ x, Den ρ (ev x) (ρa x)) :
    ∀ (parts : List (Nat × Operand)) (c : List AV) (l : List AV), fillA sz c (parts.map fun p => (p.1, ev p.2)) = some l →
      Instr.fill (fun i => some (i * sz, sz)) (AV.denL ρ c).toArray (parts.map fun p => (p.1, ρa p.2)) = some (AV.denL ρ l).toArray ∧ l.length = c.length
  | [], c, l, h => by simp [fillA] at h; subst h; exact ⟨rfl, rfl⟩
  | (i, x) :: r, c, l, h => by
    simp only [List.map_cons, fillA] at h
    cases hx : (ev x).cellsA with
    | none => simp [hx] at h
    | some m =>
      simp only [hx] at h
      split at h
      · rename_i hc
        obtain ⟨hc1, hc2⟩ := hc
        have hcells := AV.cellsA_den hx (hev x)
        have hlen : (AV.denL ρ m).length = sz := by rw [AV.denL_eq, List.length_map]; exact hc1
        have hcl : (AV.denL ρ c).length = c.length := by rw [AV.denL_eq, List.length_map]
        have hsz : (ρa x).cells.size = sz := by rw [hcells]; simpa using hlen
        simp only [List.map_cons, Instr.fill]
        rw [if_neg (by simp only [hsz]; simp [hcl]; omega)]
        rw [fold_set' _ _ _ (by rw [hsz]; simp [hcl]; omega), hcells]
        have := fill_slice ev ρa hev r (spliceA c (i * sz) m) l h
        rw [spliceA_den] at this
        exact ⟨this.1, this.2.trans (length_spliceA (by omega))⟩
      · cases h

theorem repL_length (n : Nat) (z : List AV) : (repL n z).length = n * z.length := by
  induction n with
  | zero => simp [repL]
  | succ n ih => simp [repL, ih, Nat.add_mul]; omega

theorem repL_get (n : Nat) (z : List AV) (i : Nat) (h : i < n * z.length) : (repL n z)[i]? = z[i % z.length]? := by
  induction n generalizing i with
  | zero => simp at h
  | succ n ih =>
    rw [repL]
    by_cases hi : i < z.length
    · rw [List.getElem?_append_left hi, Nat.mod_eq_of_lt hi]
    · have h' : i < n * z.length + z.length := by rw [Nat.add_mul] at h; omega
      rw [List.getElem?_append_right (by omega), ih (i - z.length) (by omega), ← Nat.mod_eq_sub_mod (by omega)]

theorem repL_made (n : Nat) (z : List AV) (hz : z ≠ []) : (AV.denL ρ (repL n z)).toArray = madeCells (AV.denL ρ z).toArray (n * z.length) := by
  apply Array.ext
  · simp [AV.denL_eq, repL_length, madeCells]
  · intro i h1 h2
    have hl : i < n * z.length := by simpa [AV.denL_eq, repL_length] using h1
    have hz0 : 0 < z.length := List.length_pos_iff.2 hz
    have hm : i % z.length < z.length := Nat.mod_lt _ hz0
    have := repL_get n z i hl
    have hri : i < (repL n z).length := by rw [repL_length]; exact hl
    rw [List.getElem?_eq_getElem hri, List.getElem?_eq_getElem hm, Option.some.injEq] at this
    simp only [AV.denL_eq, madeCells, List.getElem_toArray, List.getElem_map, Array.getElem_map, Array.getElem_range, this, List.size_toArray, List.length_map]
    rw [getElem!_pos _ _ (by simpa using hm)]
    simp

theorem repL_wf (p : Nat → Bool) (n : Nat) (z : List AV) (h : AV.wfL p z = true) : AV.wfL p (repL n z) = true := by
  induction n with
  | zero => rfl
  | succ n ih => rw [repL, AV.wfL_eq, List.all_append, ← AV.wfL_eq, ← AV.wfL_eq, h, ih]; rfl

theorem buildA_wf (p : Nat → Bool) {fs : List FI} : ∀ (parts : List (Nat × AV)) (c l : List AV), buildA fs c parts = some l → AV.wfL p c = true → (∀ q ∈ parts, q.2.wf p = true) → AV.wfL p l = true
  | [], c, l, h, hc, _ => by simp [buildA] at h; subst h; exact hc
  | (i, x) :: r, c, l, h, hc, hp => by
    simp only [buildA] at h
    split at h
    · rename_i f m hf hx
      split at h
      · exact buildA_wf p r _ _ h (spliceA_wf p _ hc (AV.cellsA_wf p hx (hp (i, x) (by simp)))) (fun q hq => hp q (by simp [hq]))
      · cases h
    · cases h

/-! ### Values -/

theorem fillA_wf (p : Nat → Bool) {sz : Nat} : ∀ (parts : List (Nat × AV)) (c l : List AV), fillA sz c parts = some l → AV.wfL p c = true → (∀ q ∈ parts, q.2.wf p = true) → AV.wfL p l = true
  | [], c, l, h, hc, _ => by simp [fillA] at h; subst h; exact hc
  | (i, x) :: r, c, l, h, hc, hp => by
    simp only [fillA] at h
    split at h
    · rename_i m hx
      split at h
      · exact fillA_wf p r _ _ h (spliceA_wf p _ hc (AV.cellsA_wf p hx (hp (i, x) (by simp)))) (fun q hq => hp q (by simp [hq]))
      · cases h
    · cases h

theorem wfL_get (p : Nat → Bool) {l : List AV} {i : Nat} {x : AV} (h : AV.wfL p l = true) (hx : l[i]? = some x) : x.wf p = true := by
  rw [AV.wfL_eq, List.all_eq_true] at h
  exact h x (List.mem_of_getElem? hx)

theorem wfL_take (p : Nat → Bool) {l : List AV} (n : Nat) (h : AV.wfL p l = true) : AV.wfL p (l.take n) = true := by
  rw [AV.wfL_eq, List.all_eq_true] at *
  exact fun x hx => h x (List.mem_of_mem_take hx)
theorem wfL_drop (p : Nat → Bool) {l : List AV} (n : Nat) (h : AV.wfL p l = true) : AV.wfL p (l.drop n) = true := by
  rw [AV.wfL_eq, List.all_eq_true] at *
  exact fun x hx => h x (List.mem_of_mem_drop hx)

theorem denL_take (l : List AV) (n : Nat) : AV.denL ρ (l.take n) = (AV.denL ρ l).take n := by simp [AV.denL_eq, List.map_take]
theorem denL_drop (l : List AV) (n : Nat) : AV.denL ρ (l.drop n) = (AV.denL ρ l).drop n := by simp [AV.denL_eq, List.map_drop]
theorem denL_get (l : List AV) (i : Nat) : (AV.denL ρ l)[i]? = l[i]?.map (AV.den ρ) := by simp [AV.denL_eq]
theorem denL_length (l : List AV) : (AV.denL ρ l).length = l.length := by simp [AV.denL_eq]

theorem typeInfo_map {t : Nat} {k : TK} (hT : TblOk P T) (h : (T.ty t).map TI.k = some k) : ∃ i, T.ty t = some i ∧ i.k = k ∧ TyOk P t i := by
  cases hi : T.ty t with
  | none => simp [hi] at h
  | some i => simp [hi] at h; exact ⟨i, rfl, h, hT.ty t i hi⟩

theorem DenL_of_sure {l : List AV} {cs : List Value} (hs : AV.sureL l = true) (h : DenL ρ l cs) : Den ρ (.agg l) (.agg cs.toArray) := .inr (by rw [DenL.sure hs h]; rfl)

theorem places_of : ∀ (fs : List Field), (∀ f ∈ fs, P.cellsOf f.type ≠ 0) → fs.mapM (fun f => (P.info? f.type).map fun i => (f.offset, i.size)) = some (fs.map fun f => (f.offset, P.cellsOf f.type))
  | [], _ => rfl
  | f :: fs, h => by
    have h1 := h f (by simp)
    have h2 : (P.info? f.type).map (fun i => (f.offset, i.size)) = some (f.offset, P.cellsOf f.type) := by
      unfold Program.cellsOf at h1 ⊢
      cases hx : P.info? f.type with
      | none => simp [hx] at h1
      | some x => simp
    rw [List.mapM_cons, h2, places_of fs (fun g hg => h g (by simp [hg]))]
    rfl

theorem eqGuard_int (op : BinOp) (t : Nat) (x y : Operand) (k k' : IntKind) (m n : Int) : (eqGuard op t x y (.int k m) (.int k' n)).run P w = .ok () w := by
  cases op <;> simp [eqGuard]
theorem eqGuard_bool (op : BinOp) (t : Nat) (x y : Operand) (m n : Bool) : (eqGuard op t x y (.bool m) (.bool n)).run P w = .ok () w := by
  cases op <;> simp [eqGuard]

theorem cmpA_ints {op : BinOp} {x y r : AV} (h : cmpA op x y = some r) : x ≠ .any ∧ y ≠ .any ∧ (∃ k n, x.den ρ = .int k n) ∧ ∃ k n, y.den ρ = .int k n := by
  unfold cmpA at h
  split at h
  · rename_i h1 h2
    obtain ⟨e1, d1⟩ := AV.lit_den (ρ := ρ) h1
    obtain ⟨e2, d2⟩ := AV.lit_den (ρ := ρ) h2
    exact ⟨e1, e2, ⟨_, _, d1⟩, _, _, d2⟩
  · split at h
    · rename_i h1 h2
      obtain ⟨e1, d1⟩ := AV.asI_den (ρ := ρ) h1
      obtain ⟨e2, d2⟩ := AV.asI_den (ρ := ρ) h2
      exact ⟨e1, e2, ⟨_, _, d1⟩, _, _, d2⟩
    · cases h

theorem boolA_bools {neg : Bool} {x y r : AV} (h : boolA neg x y = some r) : (∃ b, x.den ρ = .bool b) ∧ ∃ b, y.den ρ = .bool b := by
  unfold boolA at h
  split at h <;> first | (cases h; done) | exact ⟨⟨_, rfl⟩, _, rfl⟩

theorem cmpA_sound' {op : BinOp} {x y r : AV} {u v : Value} (h : cmpA op x y = some r) (hx : Den ρ x u) (hy : Den ρ y v) (t : Nat) (ox oy : Operand) :
    ∃ z, ((eqGuard op t ox oy u v).run P w = .ok () w ∧ (binOp op t u v).run P w = .ok z w) ∧ Den ρ r z := by
  obtain ⟨z, hz, hd⟩ := cmpA_sound (P := P) (w := w) h hx hy t
  obtain ⟨e1, e2, ⟨k, n, d1⟩, k', n', d2⟩ := cmpA_ints (ρ := ρ) h
  refine ⟨z, ⟨?_, hz⟩, hd⟩
  rw [hx.out e1, hy.out e2, d1, d2]; exact eqGuard_int ..

theorem nilA_sound {t e : Nat} (ht : P.underlying t = some (.slice e)) {x y r : AV} {u v : Value} (h : nilA x y = some r) (hx : Den ρ x u) (hy : Den ρ y v) (ox oy : Operand) :
    ∃ z, ((eqGuard .eql t ox oy u v).run P w = .ok () w ∧ (binOp .eql t u v).run P w = .ok z w) ∧ Den ρ r z := by
  have key : ∀ (a : Option Addr) (n k : Nat), (eqGuard .eql t ox oy (.slice a n k) (.slice none 0 0)).run P w = .ok () w ∧ (binOp .eql t (.slice a n k) (.slice none 0 0)).run P w = .ok (.bool a.isNone) w := fun a n k => by
    refine ⟨by simp [eqGuard], ?_⟩
    have h1 : ∀ d, (Op.equalIn (d + 1) t (.slice a n k) (.slice none 0 0)).run P w = .ok a.isNone w := fun d => by
      cases a <;> simp [Op.equalIn, run_underlying ht]
    have h2 : (Op.equal t (.slice a n k) (.slice none 0 0)).run P w = .ok a.isNone w := h1 9999
    simp [binOp, h2]
  unfold nilA at h
  split at h
  · cases h
    rw [hx.out (by simp), hy.out (by simp)]
    exact ⟨_, key _ _ _, .inr rfl⟩
  · cases h
    rw [hx.out (by simp), hy.out (by simp)]
    exact ⟨_, key none 0 0, .inr rfl⟩
  · cases h

theorem binA_sound (hT : TblOk P T) {op : BinOp} {t : Nat} {x y r : AV} {u v : Value} (h : binA T op t x y = some r) (hx : Den ρ x u) (hy : Den ρ y v) (ox oy : Operand) :
    ∃ z, ((eqGuard op t ox oy u v).run P w = .ok () w ∧ (binOp op t u v).run P w = .ok z w) ∧ Den ρ r z := by
  unfold binA at h
  split at h
  · split at h
    · rename_i l m
      split at h
      · rename_i ks hk _
        have := eqA_sound (w := w) (ρ := ρ) hT hk h
        rw [hx.out (by simp), hy.out (by simp)]
        refine ⟨_, ⟨?_, this.1⟩, .inr rfl⟩
        simp [eqGuard, AV.den, (hT.eqk t ks hk).1]
      · rename_i ks hk _
        have := eqA_sound (w := w) (ρ := ρ) hT hk h
        rw [hx.out (by simp), hy.out (by simp)]
        refine ⟨_, ⟨?_, this.1⟩, .inr rfl⟩
        simp [eqGuard, AV.den, (hT.eqk t ks hk).1]
      · cases h
    · split at h
      · rename_i hk _
        obtain ⟨ti, hti, hki, hty⟩ := typeInfo_map hT hk
        have ht := tk_bool (hty.kind.trans hki)
        obtain ⟨h1, _, h3, h4⟩ := boolA_sound (P := P) (w := w) (ρ := ρ) h ht
        obtain ⟨⟨b, e1⟩, d, e2⟩ := boolA_bools (ρ := ρ) h
        rw [hx.out h3, hy.out h4]
        exact ⟨_, ⟨by rw [e1, e2]; exact eqGuard_bool .., h1⟩, .inr rfl⟩
      · rename_i hk _
        obtain ⟨ti, hti, hki, hty⟩ := typeInfo_map hT hk
        have ht := tk_bool (hty.kind.trans hki)
        obtain ⟨h1, _, h3, h4⟩ := boolA_sound (P := P) (w := w) (ρ := ρ) h ht
        obtain ⟨⟨b, e1⟩, d, e2⟩ := boolA_bools (ρ := ρ) h
        rw [hx.out h3, hy.out h4]
        exact ⟨_, ⟨by rw [e1, e2]; exact eqGuard_bool .., h1⟩, .inr rfl⟩
      · rename_i hk _
        obtain ⟨ti, hti, hki, hty⟩ := typeInfo_map hT hk
        exact nilA_sound (tk_slice (hty.kind.trans hki)) h hx hy ox oy
      · exact cmpA_sound' h hx hy t ox oy
  · split at h
    · rename_i h1 h2
      split at h
      · rename_i e
        subst e
        obtain ⟨z, hz, rfl⟩ := Option.map_eq_some_iff.1 h
        obtain ⟨e1, d1⟩ := AV.lit_den (ρ := ρ) h1
        obtain ⟨e2, d2⟩ := AV.lit_den (ρ := ρ) h2
        rw [hx.out e1, hy.out e2, d1, d2]
        exact ⟨_, ⟨eqGuard_int .., litF_run hz⟩, .inr rfl⟩
      · cases h
    · cases h

theorem val_sound (hT : TblOk P T) {o : Oper} {r : AV} (h : valF T o.op s.eval s.ob = some r) (hg : Gam c ρ s a w) : ∃ v, (execOp a.eval o).run P w = .ok (.value v) w ∧ Den ρ r v := by
  have D : ∀ x, Den ρ (s.eval x) (a.eval x) := fun x => hg.eval x
  have O : ∀ {x y}, s.eval x = y → y ≠ .any → a.eval x = y.den ρ := fun {x y} e hy => (D x).out (by rw [e]; exact hy) |>.trans (by rw [e])
  unfold valF at h
  unfold execOp
  split at h
  -- move, assign
  · rename_i x ho; rw [ho]; cases h; exact ⟨_, rfl, D x⟩
  · rename_i x ho; rw [ho]; cases h; exact ⟨_, rfl, D x⟩
  -- pick
  · rename_i q x y ho
    rw [ho]
    split at h
    · rename_i e; cases h; refine ⟨a.eval x, ?_, D x⟩; simp [O e (by simp), AV.den, asBool]
    · rename_i e; cases h; refine ⟨a.eval y, ?_, D y⟩; simp [O e (by simp), AV.den, asBool]
    · cases h
  -- load
  · rename_i t x ho
    rw [ho]
    split at h
    · rename_i id off e
      have ex := O e (by simp)
      split at h
      · rename_i U l i hob hti
        obtain ⟨cs, _, hd, hcell⟩ := ob_cell hg hob
        have hi := hT.ty t i hti
        simp only [Instr.loadAt, ex, AV.den, Instr.sureAddr]
        split at h
        · rename_i hagg
          dsimp only at h
          split at h
          · rename_i hlen
            cases h
            have hd' := (hd.drop off).take i.size
            have hlen' : ((cs.drop off).take i.size).length = i.size := by rw [← hd'.length]; exact hlen
            have := run_loadVar_agg (w := w) hi hagg (b := ρ id) (o := off) (l := (cs.drop off).take i.size) hlen' (fun j v hv => by
              rw [hcell]
              have : j < i.size := by
                have := (List.getElem?_eq_some_iff.1 hv).1; omega
              simpa [List.getElem?_take, List.getElem?_drop, this] using hv)
            refine ⟨.agg ((cs.drop off).take i.size).toArray, by simp [this], ?_⟩
            split
            · rename_i hs; exact DenL_of_sure hs hd'
            · exact .inl rfl
          · cases h
        · rename_i hagg
          obtain ⟨v, hv, hdv⟩ := hd.get h
          have := run_loadVar_cell (w := w) hi (by simpa using hagg) (b := ρ id) (o := off) (v := v) (by rw [hcell]; exact hv)
          exact ⟨v, by simp [this], hdv⟩
      · cases h
    · cases h
  -- fieldAddr
  · rename_i t x i ho
    rw [ho]
    split at h
    · rename_i fs hk
      obtain ⟨ti, hti, hki, hty⟩ := typeInfo_map hT hk
      obtain ⟨d, hd, htk⟩ := hty.und'
      rw [hki] at htk
      obtain ⟨fa, hfa, hfs⟩ := tk_struct htk
      cases hfa
      have run : ∀ {f : FI} {b o : Nat}, fs[i]? = some f → f.size ≠ 0 → (Instr.fieldAt t (.pointer (some ⟨b, o, none⟩)) i).run P w = .ok (.pointer (some ⟨b, o + f.off, none⟩)) w := fun {f b o} hf hs => by
        rw [hfs] at hf
        simp only [List.getElem?_map, Option.map_eq_some_iff] at hf
        obtain ⟨g, hg', rfl⟩ := hf
        have hg2 : fa[i]? = some g := by simpa using hg'
        simp only [] at hs ⊢
        simp [Instr.fieldAt, run_underlying hd, hg2, Instr.sureAddr, fieldPlace, cellsOf_size (P := P) (w := w) rfl hs, hs, addr_add]
      split at h
      · rename_i f id off hf e
        split at h
        · cases h
        · rename_i hs; cases h
          exact ⟨_, by simp [O e (by simp), AV.den, run hf hs], .inr rfl⟩
      · rename_i f b q hf e
        split at h
        · cases h
        · rename_i hs; cases h
          exact ⟨_, by simp [O e (by simp), AV.den, run hf hs], .inr rfl⟩
      · cases h
    · cases h
  -- field
  · rename_i t x i ho
    rw [ho]
    split at h
    · rename_i fs hk
      obtain ⟨ti, hti, hki, hty⟩ := typeInfo_map hT hk
      obtain ⟨d, hd, htk⟩ := hty.und'
      rw [hki] at htk
      obtain ⟨fa, hfa, hfs⟩ := tk_struct htk
      cases hfa
      split at h
      · rename_i f l hf e
        have ex := O e (by simp)
        rw [hfs] at hf
        simp only [List.getElem?_map, Option.map_eq_some_iff] at hf
        obtain ⟨g, hg', rfl⟩ := hf
        have hg2 : fa[i]? = some g := by simpa using hg'
        dsimp only at h
        split at h
        · rename_i hagg
          split at h
          · rename_i hc
            cases h
            refine ⟨.agg (((AV.denL ρ l).drop g.offset).take (P.cellsOf g.type)).toArray, ?_, .inr (by simp [AV.den, denL_take, denL_drop])⟩
            have h1 := aggD_run (P := P) (w := w) (und_of_cells hagg)
            have h2 := cellsOf_size (P := P) (w := w) rfl hc.1
            simp only [Instr.field, ex, AV.den, Sem.run_bind, run_underlying hd, Result.andThen_ok, hg2, asAgg, Sem.run_pure, part, h1, hagg, if_true, h2]
            have e1 : (AV.denL ρ l).toArray.extract g.offset (g.offset + P.cellsOf g.type) = (((AV.denL ρ l).drop g.offset).take (P.cellsOf g.type)).toArray := by
              apply Array.ext'
              simp [List.extract_eq_take_drop]
            rw [e1]
          · cases h
        · rename_i hagg
          split at h
          · rename_i hund
            refine ⟨r.den ρ, ?_, .inr rfl⟩
            have hl : (AV.denL ρ l).toArray[g.offset]? = some (r.den ρ) := by simp [denL_get, h]
            have h1 := aggD_run (P := P) (w := w) hund
            simp only [Instr.field, ex, AV.den, Sem.run_bind, run_underlying hd, Result.andThen_ok, hg2, asAgg, Sem.run_pure, part, h1, hagg, Bool.false_eq_true, if_false, hl]
          · cases h
      · cases h
    · cases h
  -- extract
  · rename_i x i ho
    rw [ho]
    split at h
    · rename_i l e
      refine ⟨r.den ρ, ?_, .inr rfl⟩
      have hl : (AV.denL ρ l).toArray[i]? = some (r.den ρ) := by simp [denL_get, h]
      simp only [Instr.extract, O e (by simp), AV.den, hl, Sem.run_bind, Sem.run_pure, Result.andThen_ok]
    · cases h
  -- not
  · rename_i t x ho
    rw [ho]
    split at h
    · rename_i e; cases h; exact ⟨.bool false, by simp [Op.unary, O e (by simp), AV.den], .inr rfl⟩
    · rename_i e; cases h; exact ⟨.bool true, by simp [Op.unary, O e (by simp), AV.den], .inr rfl⟩
    · rename_i b e; cases h; exact ⟨.bool (!b ()), by simp [Op.unary, O e (by simp), AV.den], .inr rfl⟩
    · cases h
  -- binOp
  · rename_i op t x y yt ho
    rw [ho]
    obtain ⟨v, hv, hd⟩ := binA_sound (w := w) hT h (D x) (D y) x y
    exact ⟨v, by simp [Sem.run_bind, hv.1, hv.2], hd⟩
  -- convert
  · rename_i src dst x ho
    rw [ho]
    split at h
    · rename_i k0 n k e hsrc hk
      cases h
      obtain ⟨ti, hti, hki, hty⟩ := typeInfo_map hT hk
      have hd := tk_int (hty.kind.trans hki)
      obtain ⟨si, hsi⟩ := Option.isSome_iff_exists.1 hsrc
      obtain ⟨sd, hsd, _⟩ := (hT.ty src si hsi).und'
      refine ⟨.int k (k.wrap n), ?_, .inr rfl⟩
      simp [convert, run_underlying hsd, run_underlying hd, O e (by simp), AV.den, Conv.intToInt]
    · cases h
  -- makeFunc
  · rename_i fn first cap ho
    rw [ho]
    dsimp only at h
    split at h
    · rename_i hs
      cases h
      simp only [Bool.and_eq_true] at hs
      have key : ∀ (l : List Operand), AV.sureL (l.map s.eval) = true → AV.denL ρ (l.map s.eval) = l.map a.eval := fun l hl => by
        rw [AV.sureL_eq, List.all_eq_true] at hl
        rw [AV.denL_eq, List.map_map]
        apply List.map_congr_left
        intro x hx
        have := hl (s.eval x) (List.mem_map.2 ⟨x, hx, rfl⟩)
        exact ((D x).out (fun e => by rw [e] at this; cases this)).symm
      refine ⟨.func fn (first.map a.eval) (cap.map a.eval), by simp [Instr.makeFunc], .inr ?_⟩
      rw [AV.den, key _ hs.1, key _ hs.2]
      have e : ∀ l : Array Operand, l.map a.eval = (l.toList.map a.eval).toArray := fun l => by apply Array.ext'; simp
      rw [e first, e cap]
    · cases h
  -- nilCheck
  · rename_i x ho
    rw [ho]
    split at h
    · rename_i id off e; cases h; exact ⟨_, by simp [O e (by simp), AV.den], .inr rfl⟩
    · rename_i b q e; cases h; exact ⟨_, by simp [O e (by simp), AV.den], .inr rfl⟩
    · rename_i f m n e; cases h; exact ⟨_, by simp [O e (by simp), AV.den], .inr rfl⟩
    · cases h
  -- build
  · rename_i t parts ho
    rw [ho]
    split at h
    · rename_i i hti
      have hi := hT.ty t i hti
      split at h
      · rename_i fs hk
        split at h
        · rename_i hall
          split at h
          · rename_i l hb
            cases h
            obtain ⟨d, hd, htk⟩ := hi.und'
            rw [hk] at htk
            obtain ⟨fa, hfa, hfs⟩ := tk_struct htk
            cases hfa
            obtain ⟨z, hz, hzc⟩ := hi.run_zeroValue (w := w)
            have hpl := run_places (P := P) w fa.toList _ (places_of (P := P) fa.toList (by
              intro f hf
              rw [hfs, List.all_eq_true] at hall
              simpa using hall _ (List.mem_map.2 ⟨f, hf, rfl⟩)))
            have hzc' : z.cells = (AV.denL ρ i.zero).toArray := by rw [zero_den hi]; apply Array.ext'; simpa using hzc
            have hfill := fill_build (ρ := ρ) (fs := fs) (places := fa.toList.map fun f => (f.offset, P.cellsOf f.type)) (fun j f hf => by
              rw [hfs] at hf
              simp only [List.getElem?_map, Option.map_eq_some_iff] at hf
              obtain ⟨g, hg', rfl⟩ := hf
              simp [hg']) s.eval a.eval D parts.toList i.zero l hb
            refine ⟨.agg (AV.denL ρ l).toArray, ?_, ?_⟩
            · have hparts : (parts.map fun p => (p.1, a.eval p.2)).toList = parts.toList.map fun p => (p.1, a.eval p.2) := by simp
              obtain ⟨ix, iz, hix, _, _, hiz, hizc⟩ := hi.info'
              have hzz : z = iz := by simp [zeroValue, typeInfo, hix, hiz] at hz; exact hz.symm
              subst hzz
              generalize hpp : fa.toList.map (fun f => (f.offset, P.cellsOf f.type)) = pl at hpl hfill
              have h' : Instr.fill (fun x => pl[x]?) z.cells (parts.map fun p => (p.1, a.eval p.2)).toList = some (AV.denL ρ l).toArray := by rw [hzc', hparts]; exact hfill
              have h2 : (Instr.build t (parts.map fun p => (p.1, a.eval p.2))).run P w = .ok (.agg (AV.denL ρ l).toArray) w := by
                generalize (parts.map fun p => (p.1, a.eval p.2)) = ps at h'
                simp [Instr.build, run_underlying hd, typeInfo, zeroValue, hix, hiz, Array.mapM_eq_mapM_toList, hpl, h']
              simp [h2]
            · split
              · exact .inr rfl
              · exact .inl rfl
          · cases h
        · cases h
      · rename_i n e hk
        split at h
        · rename_i ie hte
          have hie := hT.ty e ie hte
          split at h
          · rename_i l hb
            cases h
            obtain ⟨d, hd, htk⟩ := hi.und'
            rw [hk] at htk
            have hd := hd.trans (tk_arr htk)
            obtain ⟨z, hz, hzc⟩ := hi.run_zeroValue (w := w)
            have hsz := hie.run_sizeOf (w := w)
            have hzc' : z.cells = (AV.denL ρ i.zero).toArray := by rw [zero_den hi]; apply Array.ext'; simpa using hzc
            have hfill := (fill_slice (ρ := ρ) (sz := ie.size) s.eval a.eval D parts.toList i.zero l hb).1
            refine ⟨.agg (AV.denL ρ l).toArray, ?_, ?_⟩
            · have hparts : (parts.map fun p => (p.1, a.eval p.2)).toList = parts.toList.map fun p => (p.1, a.eval p.2) := by simp
              have h' : Instr.fill (fun i => some (i * ie.size, ie.size)) z.cells (parts.map fun p => (p.1, a.eval p.2)).toList = some (AV.denL ρ l).toArray := by rw [hzc', hparts]; exact hfill
              have h2 : (Instr.build t (parts.map fun p => (p.1, a.eval p.2))).run P w = .ok (.agg (AV.denL ρ l).toArray) w := by
                generalize (parts.map fun p => (p.1, a.eval p.2)) = ps at h'
                simp [Instr.build, hz, run_underlying hd, hsz, h']
              simp [h2]
            · split
              · exact .inr rfl
              · exact .inl rfl
          · cases h
        · cases h
      · cases h
    · cases h
  -- len
  · rename_i args argTypes ho
    rw [ho]
    split at h
    · rename_i x t ha hat
      have hargs : args = #[x] := by apply Array.ext'; simpa using ha
      have hats : argTypes = #[t] := by apply Array.ext'; simpa using hat
      subst hargs; subst hats
      split at h
      · rename_i e0 m n q hk e
        cases h
        obtain ⟨ti, hti, hki, hty⟩ := typeInfo_map hT hk
        have hd := tk_slice (hty.kind.trans hki)
        refine ⟨.int .i64 (n () : Int), ?_, .inr rfl⟩
        simp [resolve, invoke, builtin, Builtin.len_, run_underlying hd, O e (by simp), AV.den, goInt]
      · rename_i e0 hk e
        cases h
        obtain ⟨ti, hti, hki, hty⟩ := typeInfo_map hT hk
        have hd := tk_slice (hty.kind.trans hki)
        refine ⟨.int .i64 0, ?_, .inr rfl⟩
        simp [resolve, invoke, builtin, Builtin.len_, run_underlying hd, O e (by simp), AV.den, goInt]
      · cases h
    · cases h
  · cases h

end
end Go.SX

/- The reading of the syntax is sound, 3: the whole of it. Generic over the program. -/
namespace Go.SX

section
variable {P : Program} {T : Tbl} {c : Ct} {ρ : Nat → Nat} {s : S} {a : Act} {w : World}

/-! ### It looks at the operands alone -/

theorem map_congr' {l : List (Nat × Operand)} {ev ev' : Operand → AV} (h : ∀ y ∈ l.map (·.2), ev y = ev' y) : (l.map fun p => (p.1, ev p.2)) = l.map fun p => (p.1, ev' p.2) :=
  List.map_congr_left fun p hp => by rw [h p.2 (List.mem_map.2 ⟨p, hp, rfl⟩)]

theorem mapL_congr {l : List Operand} {ev ev' : Operand → AV} (h : ∀ y ∈ l, ev y = ev' y) : l.map ev = l.map ev' := List.map_congr_left h

theorem valF_congr {op : Op} {ev ev' : Operand → AV} {ob : Nat → Ob} (h : ∀ y ∈ op.operands, ev y = ev' y) : valF T op ev ob = valF T op ev' ob := by
  cases op
  case build t parts =>
    have : (parts.toList.map fun p => (p.1, ev p.2)) = parts.toList.map fun p => (p.1, ev' p.2) := map_congr' fun y hy => h y (by simpa [Op.operands] using hy)
    simp only [valF, this]
  case makeFunc fn f g =>
    have h1 : f.toList.map ev = f.toList.map ev' := mapL_congr fun y hy => h y (by simp only [Op.operands, Array.mem_append]; exact .inl (by simpa using hy))
    have h2 : g.toList.map ev = g.toList.map ev' := mapL_congr fun y hy => h y (by simp only [Op.operands, Array.mem_append]; exact .inr (by simpa using hy))
    simp only [valF, h1, h2]
  case call q =>
    obtain ⟨cal, args, ats⟩ := q
    cases cal with
    | builtin b =>
      cases b <;> try rfl
      simp only [valF]
      split
      · rename_i x t hx ht
        have : ev x = ev' x := h x (by
          have : args = #[x] := by apply Array.ext'; simpa using hx
          subst this; simp [Op.operands, Call.operands])
        rw [this]
      · rfl
    | value f => rfl
    | invoke r m => rfl
  case unOp op t x =>
    have := h x (by simp [Op.operands])
    cases op <;> simp [valF, this]
  all_goals first
    | rfl
    | (rename_i x; have h1 := h x (by simp [Op.operands]); simp [valF, h1]; done)
    | (rename_i x _; have h1 := h x (by simp [Op.operands]); simp [valF, h1]; done)
    | (rename_i x y z; have h1 := h x (by simp [Op.operands]); have h2 := h y (by simp [Op.operands]); have h3 := h z (by simp [Op.operands]); simp [valF, h1, h2, h3]; done)
    | (rename_i op t x y u; have h1 := h x (by simp [Op.operands]); have h2 := h y (by simp [Op.operands]); simp [valF, h1, h2]; done)

theorem allocF_congr {op : Op} {ev ev' : Operand → AV} (h : ∀ y ∈ op.operands, ev y = ev' y) : allocF T op ev = allocF T op ev' := by
  cases op <;> try rfl
  rename_i t x
  simp [allocF, h x (by simp [Op.operands])]

theorem storeF_congr {op : Op} {ev ev' : Operand → AV} {ob : Nat → Ob} (h : ∀ y ∈ op.operands, ev y = ev' y) : storeF T op ev ob = storeF T op ev' ob := by
  cases op <;> try rfl
  rename_i t x y
  simp [storeF, h x (by simp [Op.operands]), h y (by simp [Op.operands])]

theorem newF_congr {op : Op} {ev ev' : Operand → AV} (h : ∀ y ∈ op.operands, ev y = ev' y) : newF T op ev = newF T op ev' := by
  cases op <;> try rfl
  · rename_i t n parts
    have : (parts.toList.map fun p => (p.1, ev p.2)) = parts.toList.map fun p => (p.1, ev' p.2) := map_congr' fun y hy => h y (by simpa [Op.operands] using hy)
    simp only [newF, this]
  · rename_i t x y
    simp only [newF, h x (by simp [Op.operands]), h y (by simp [Op.operands])]

theorem ev_put {s : S} {op : Op} {d : Option Nat} {x : AV} (h : ∀ y ∈ op.operands, ∀ t, d = some t → y ≠ .tmp t) : ∀ y ∈ op.operands, (s.put d x).eval y = s.eval y :=
  fun y hy => S.eval_put_ne s x fun t ht => h y hy t ht

theorem ob_put_fun (s : S) (d : Option Nat) (x : AV) : (s.put d x).ob = s.ob := funext fun i => S.ob_put s d x i

/-! ### Local variables that there are -/

theorem asI_wf {x : AV} {q : IntKind × (Unit → Int)} (h : x.asI = some q) (p : Nat → Bool) : x.wf p = true := by
  cases x <;> simp [AV.asI] at h <;> rfl

theorem cmpA_wf {op : BinOp} {x y r : AV} (h : cmpA op x y = some r) (p : Nat → Bool) : r.wf p = true := by
  unfold cmpA at h
  split at h
  · split at h
    · obtain ⟨z, _, rfl⟩ := Option.map_eq_some_iff.1 h; exact AV.ofB_wf z p
    · cases h
  · split at h
    · split at h
      · unfold cmpS at h
        cases op <;> simp only [reduceCtorEq] at h <;> cases h <;> rfl
      · cases h
    · cases h

theorem boolA_wf {neg : Bool} {x y r : AV} (h : boolA neg x y = some r) (p : Nat → Bool) : r.wf p = true := by
  unfold boolA at h
  split at h <;> first | (cases h; done) | (obtain rfl := Option.some.inj h; cases neg <;> rfl)

theorem eqA_wf {ks : List IntKind} {neg : Bool} {x y : List AV} {r : AV} (h : eqA ks neg x y = some r) (p : Nat → Bool) : r.wf p = true := by
  unfold eqA at h
  split at h
  · split at h
    · cases h; exact AV.ofB_wf _ p
    · cases h; cases neg <;> rfl
  · cases h

theorem binA_wf {op : BinOp} {t : Nat} {x y r : AV} (h : binA T op t x y = some r) (p : Nat → Bool) : r.wf p = true := by
  unfold binA at h
  split at h
  · split at h
    · split at h
      · exact eqA_wf h p
      · exact eqA_wf h p
      · cases h
    · split at h
      · exact boolA_wf h p
      · exact boolA_wf h p
      · unfold nilA at h
        split at h <;> first | (cases h; rfl) | cases h
      · exact cmpA_wf h p
  · split at h
    · split at h
      · obtain ⟨z, _, rfl⟩ := Option.map_eq_some_iff.1 h; rfl
      · cases h
    · cases h

theorem valF_wf {op : Op} {r : AV} (hT : TblOk P T) (hw : s.WF) (h : valF T op s.eval s.ob = some r) : r.wf s.live = true := by
  have W : ∀ x, (s.eval x).wf s.live = true := S.eval_wf hw
  have W' : ∀ {x y}, s.eval x = y → y.wf s.live = true := fun {x y} e => e ▸ W x
  have L : ∀ l : List Operand, AV.wfL s.live (l.map s.eval) = true := fun l => by
    rw [AV.wfL_eq, List.all_eq_true]; intro y hy; obtain ⟨x, _, rfl⟩ := List.mem_map.1 hy; exact W x
  cases op
  case binOp op t x y u => exact binA_wf h _
  case build t parts =>
    simp only [valF] at h
    split at h
    · rename_i i hti
      split at h
      · split at h
        · split at h
          · rename_i l hb
            cases h
            have := buildA_wf s.live _ _ _ hb (zero_wf (hT.ty t i hti) _) (fun q hq => by obtain ⟨p, _, rfl⟩ := List.mem_map.1 hq; exact W p.2)
            split
            · exact this
            · rfl
          · cases h
        · cases h
      · split at h
        · split at h
          · rename_i l hb
            cases h
            have := fillA_wf s.live _ _ _ hb (zero_wf (hT.ty t i hti) _) (fun q hq => by obtain ⟨p, _, rfl⟩ := List.mem_map.1 hq; exact W p.2)
            split
            · exact this
            · rfl
          · cases h
        · cases h
      · cases h
    · cases h
  case makeFunc fn f g =>
    simp only [valF] at h
    split at h
    · cases h; simp [AV.wf, L]
    · cases h
  case call q =>
    obtain ⟨cal, args, ats⟩ := q
    cases cal with
    | builtin b =>
      cases b <;> try (cases h; done)
      simp only [valF] at h
      split at h
      · split at h
        · cases h; rfl
        · cases h; rfl
        · cases h
      · cases h
    | value f => cases h
    | invoke r m => cases h
  case unOp op t x =>
    cases op <;> simp only [valF, reduceCtorEq] at h
    split at h <;> first | (cases h; done) | (cases h; rfl)
  case move x => simp only [valF, Option.some.injEq] at h; subst h; exact W x
  case assign x => simp only [valF, Option.some.injEq] at h; subst h; exact W x
  case pick q x y => simp only [valF] at h; split at h <;> first | (cases h; done) | (cases h; exact W _)
  case load t x =>
    simp only [valF] at h
    split at h
    · split at h
      · rename_i e U l i hob _
        have hl := hw.objs _ _ _ hob
        split at h
        · split at h
          · cases h
            split
            · simp only [AV.wf]; exact wfL_take _ _ (wfL_drop _ _ hl)
            · rfl
          · cases h
        · exact wfL_get _ hl h
      · cases h
    · cases h
  case fieldAddr t x i =>
    simp only [valF] at h
    split at h
    · split at h
      · rename_i e; split at h
        · cases h
        · cases h; have := W' e; exact this
      · split at h
        · cases h
        · cases h; rfl
      · cases h
    · cases h
  case field t x i =>
    simp only [valF] at h
    split at h
    · split at h
      · rename_i f l hf e
        have hl : AV.wfL s.live l = true := by have := W' e; simpa [AV.wf] using this
        split at h
        · split at h
          · cases h; simp only [AV.wf]; exact wfL_take _ _ (wfL_drop _ _ hl)
          · cases h
        · split at h
          · exact wfL_get _ hl h
          · cases h
      · cases h
    · cases h
  case extract x i =>
    simp only [valF] at h
    split at h
    · rename_i l e
      have hl : AV.wfL s.live l = true := by have := W' e; simpa [AV.wf] using this
      exact wfL_get _ hl h
    · cases h
  case convert src dst x => simp only [valF] at h; split at h <;> first | (cases h; done) | (cases h; rfl)
  case nilCheck x =>
    simp only [valF] at h
    split at h
    · rename_i e; cases h; exact W' e
    · cases h; rfl
    · rename_i e; cases h; exact W' e
    · cases h
  all_goals cases h

/-! ### Allocations, stores, rows -/

theorem alloc_sound (hT : TblOk P T) {o : Oper} {U : Nat} {l : List AV} (h : allocF T o.op s.eval = some (U, l)) (hg : Gam c ρ s a w) :
    ∃ cs, DenL ρ l cs ∧ (execOp a.eval o).run P w = .ok (.value (.pointer (some ⟨w.heap.size, 0, none⟩))) (w.alloc (.cells cs.toArray U (0, 0))) := by
  unfold allocF at h
  unfold execOp
  split at h
  · rename_i t ho
    rw [ho]
    obtain ⟨i, hi, e⟩ := Option.map_eq_some_iff.1 h
    obtain ⟨rfl, rfl⟩ := Prod.mk.inj e
    obtain ⟨z, hz, hzc⟩ := (hT.ty t i hi).run_zeroValue (w := w)
    have hc : z.cells = (AV.denL ρ i.zero).toArray := by rw [zero_den (hT.ty t i hi)]; apply Array.ext'; simpa using hzc
    refine ⟨AV.denL ρ i.zero, DenL.of_den ρ _, ?_⟩
    simp [Instr.alloc, hz, newVar, newRow, hc]
  · rename_i t x ho
    rw [ho]
    obtain ⟨m, hm, e⟩ := Option.map_eq_some_iff.1 h
    obtain ⟨rfl, rfl⟩ := Prod.mk.inj e
    have hc := AV.cellsA_den hm (hg.eval x)
    refine ⟨AV.denL ρ m, DenL.of_den ρ _, ?_⟩
    simp [Instr.box, newVar, newRow, hc]
  · cases h

theorem one_den {x : AV} (h : x.one = true) : (x.den ρ).oneCell' = true := by
  cases x <;> simp [AV.one] at h <;> simp [AV.den, Value.oneCell']

theorem store_sound (hT : TblOk P T) {o : Oper} {i U : Nat} {l' : List AV} (h : storeF T o.op s.eval s.ob = some (i, U, l')) (hg : Gam c ρ s a w) : s.live i = true ∧
    ∃ w' cs', (execOp a.eval o).run P w = .ok .skip w' ∧ DenL ρ l' cs' ∧ w' = { w with heap := w.heap.setIfInBounds (ρ i) (.cells cs'.toArray U (0, 0)) } := by
  unfold storeF at h
  unfold execOp
  split at h
  · rename_i t x y ho
    rw [ho]
    split at h
    · rename_i id off e
      have ex : a.eval x = .pointer (some ⟨ρ id, off, none⟩) := ((hg.eval x).out (by rw [e]; simp)).trans (by rw [e]; rfl)
      split at h
      · rename_i V l ti hob hti
        split at h
        · rename_i m hm
          split at h
          · rename_i hc
            obtain ⟨hc1, hc2, hc3⟩ := hc
            cases h
            obtain ⟨cs, hheap, hd, _⟩ := ob_cell hg hob
            have hty := hT.ty t ti hti
            have hcells := AV.cellsA_den hm (hg.eval y)
            have hml : (AV.denL ρ m).length = m.length := denL_length m
            have hcl := hd.length
            have hst := run_storeCells_at (P := P) (ρ i) off U (AV.denL ρ m) 0 cs.toArray w hheap (by simp; omega) (fun v hv => by
              rw [AV.denL_eq] at hv
              obtain ⟨q, hq, rfl⟩ := List.mem_map.1 hv
              exact one_den (List.all_eq_true.1 hc3 q hq))
            refine ⟨by simp [S.live, hob, Ob.live], _, spliceV cs off (AV.denL ρ m), ?_, hd.splice (DenL.of_den ρ m) off, rfl⟩
            have hset : w.setRow (ρ i) ((cs.toArray.toList.take (off + 0) ++ AV.denL ρ m ++ cs.toArray.toList.drop (off + 0 + (AV.denL ρ m).length)).toArray) =
                { w with heap := w.heap.setIfInBounds (ρ i) (.cells (spliceV cs off (AV.denL ρ m)).toArray U (0, 0)) } := by
              unfold World.setRow
              congr 1
              apply Array.ext_getElem?
              intro j
              rw [Array.getElem?_modify, Array.getElem?_setIfInBounds]
              by_cases hj : ρ i = j
              · subst hj
                have := (Array.getElem?_eq_some_iff.1 hheap).1
                rw [hheap]
                simp [this, spliceV]
              · simp [hj]
            rw [hset] at hst
            have hsz : (a.eval y).cells.size = ti.size := by rw [hcells]; simp [hml, hc1]
            simp [Instr.storeAt, ex, Instr.sureAddr, storeVar, hty.run_sizeOf, hcells, hst, hml, hc1]
          · cases h
        · cases h
      · cases h
    · cases h
  · cases h

theorem new_sound (hT : TblOk P T) {o : Oper} {i : NewI} (h : newF T o.op s.eval = some i) (hs : i.side ()) (hg : Gam c ρ s a w) :
    ∃ ob, i.frag.on (some ob) ∧ (execOp a.eval o).run P w = .ok (.value (i.r w.heap.size).val) (w.alloc ob) := by
  unfold newF at h
  unfold execOp
  split at h
  · rename_i t n parts ho
    rw [ho]
    split at h
    · rename_i e hk
      obtain ⟨ts, hts, hks, hty⟩ := typeInfo_map hT hk
      have hd := tk_slice (hty.kind.trans hks)
      split at h
      · rename_i ti hti
        have hi := hT.ty e ti hti
        split at h
        · rename_i l hl
          split at h
          · rename_i hc
            simp only [Bool.and_eq_true, decide_eq_true_eq] at hc
            obtain ⟨⟨⟨⟨hc1, hc2⟩, hc3⟩, hc4⟩, hc5⟩ := hc
            cases h
            obtain ⟨hfill, hlen⟩ := fill_slice (ρ := ρ) s.eval a.eval hg.eval parts.toList _ l hl
            obtain ⟨ix, iz, hix, hisz, _, hiz, hizc⟩ := hi.info'
            have hzl : ti.zero.length = ti.size ∨ True := .inr trivial
            have hgr : AV.denL ρ l = AV.denL (fun _ => 0) l := AV.denL_congr (p := fun _ => false) (fun i hi => by cases hi) l hc2
            have hzc : iz.cells = (AV.denL ρ ti.zero).toArray := by rw [zero_den hi]; apply Array.ext'; simpa using hizc
            have hparts : (parts.map fun p => (p.1, a.eval p.2)).toList = parts.toList.map fun p => (p.1, a.eval p.2) := by simp
            have hz0 : ti.zero ≠ [] := fun e => by rw [e] at hc5; simp at hc5; omega
            have hrun : (Instr.buildSlice t n (parts.map fun p => (p.1, a.eval p.2))).run P w = .ok (.slice (some ⟨w.heap.size, 0, none⟩) n n) (w.alloc (.cells (AV.denL ρ l).toArray e (0, 0))) := by
              have hm := repL_made (ρ := ρ) n ti.zero hz0
              rw [hc5] at hm
              by_cases hn : n * ti.size = 0
              · have hn0 : n = 0 := by rcases Nat.mul_eq_zero.1 hn with h | h; exact h; exact absurd h hc4
                subst hn0
                simp only [repL, AV.denL] at hfill
                simp only [Instr.buildSlice, Sem.run_bind, run_underlying hd, Result.andThen_ok, hi.run_sizeOf, hparts]
                simp [Array.range_zero', hfill, newRow]
              · have hr : ((Array.range (n * ti.size)).map fun k => iz.cells[k % iz.cells.size]!) = (AV.denL ρ (repL n ti.zero)).toArray := by rw [hm, hzc]; rfl
                have hzv : (zeroValue e).run P w = .ok iz w := by simp [zeroValue, typeInfo, hix, hiz]
                simp only [Instr.buildSlice, Sem.run_bind, run_underlying hd, Result.andThen_ok, hi.run_sizeOf, hparts, hn, if_false]
                simp [newRow, show ¬ (16777216 < n * ti.size) by omega, hzv, hr, hfill]
            refine ⟨.cells (AV.denL ρ l).toArray e (0, 0), ⟨[], by simp [hgr], ?_⟩, ?_⟩
            · simp only [List.append_nil, denL_length]; rw [hlen, repL_length, hc5]
            · simp [hrun, AV.val, AV.den]
          · cases h
        · cases h
      · cases h
    · cases h
  · rename_i t x y ho
    rw [ho]
    split at h
    · rename_i e hk
      obtain ⟨ts, hts, hks, hty⟩ := typeInfo_map hT hk
      have hd := tk_slice (hty.kind.trans hks)
      split at h
      · rename_i ti k1 n k2 m hti hx hy
        cases h
        have hi := hT.ty e ti hti
        obtain ⟨ix, iz, hix, hisz, hib, hiz, hizc⟩ := hi.info'
        obtain ⟨e1, d1⟩ := AV.asI_den (ρ := ρ) hx
        obtain ⟨e2, d2⟩ := AV.asI_den (ρ := ρ) hy
        obtain ⟨s1, s2, s3, s4⟩ := hs
        have hrun := run_make (P := P) w t e ix iz hd hix hiz k1 k2 (n ()) (m ()) s1 s2 (by rw [hib, Int.mul_comm]; exact s3) s4
        have hzc : iz.cells = (AV.denL (fun _ => 0) ti.zero).toArray := by apply Array.ext'; simpa using hizc
        refine ⟨.cells (madeCells iz.cells ((m ()).toNat * ix.size)) e, ⟨[], ?_, ?_⟩, ?_⟩
        · simp [AV.denL, hzc, hisz]
        · simp [AV.denL, size_madeCells]
        · have hx' := ((hg.eval x).out e1).trans d1
          have hy' := ((hg.eval y).out e2).trans d2
          simp [hx', hy', hrun, AV.val, AV.den]
      · cases h
    · cases h
  · cases h

theorem info_ok (hT : TblOk P T) : (info T).Ok P where
  alloc h hg := alloc_sound hT h hg
  alloc_wf {s o U l} h hw := by
    simp only [info] at h
    unfold allocF at h
    split at h
    · obtain ⟨i, hi, e⟩ := Option.map_eq_some_iff.1 h
      obtain ⟨rfl, rfl⟩ := Prod.mk.inj e
      exact zero_wf (hT.ty _ i hi) _
    · obtain ⟨m, hm, e⟩ := Option.map_eq_some_iff.1 h
      obtain ⟨rfl, rfl⟩ := Prod.mk.inj e
      exact AV.cellsA_wf _ hm (S.eval_wf hw _)
    · cases h
  alloc_put h := allocF_congr (ev_put h)
  alloc_M := allocF_congr fun y _ => by cases y <;> rfl
  alloc_ob := allocF_congr fun y _ => by cases y <;> rfl
  store h hg := store_sound hT h hg
  store_wf {s o i U l'} h hw := by
    simp only [info] at h
    unfold storeF at h
    split at h
    · split at h
      · split at h
        · rename_i hob _
          split at h
          · rename_i m hm
            split at h
            · cases h; exact spliceA_wf _ _ (hw.objs _ _ _ hob) (AV.cellsA_wf _ hm (S.eval_wf hw _))
            · cases h
          · cases h
        · cases h
      · cases h
    · cases h
  store_put {s o d x} h := by simp only [info, ob_put_fun]; exact storeF_congr (ev_put h)
  store_M {s o M} := by
    have : (s.withM M).ob = s.ob := rfl
    simp only [info, this]; exact storeF_congr fun y _ => by cases y <;> rfl
  store_ob {s o i U l' j x} h hne := by
    simp only [info] at h ⊢
    have e : storeF T o.op (s.setOb j x).eval (s.setOb j x).ob = storeF T o.op s.eval (s.setOb j x).ob := storeF_congr fun y _ => by cases y <;> rfl
    rw [e]
    unfold storeF at h ⊢
    split at h
    · split at h
      · rename_i id off _
        split at h
        · rename_i V q ti hob hti
          have hid : id = i := by
            split at h
            · split at h
              · cases h; rfl
              · cases h
            · cases h
          subst hid
          rw [S.ob_setOb_ne s x hne, hob, hti]; exact h
        · cases h
      · cases h
    · cases h
  new h hs hg := new_sound hT h hs hg
  new_r {s o i} h b := by
    simp only [info] at h
    unfold newF at h
    split at h
    · split at h
      · split at h
        · split at h
          · split at h
            · cases h; rfl
            · cases h
          · cases h
        · cases h
      · cases h
    · split at h
      · split at h
        · cases h; rfl
        · cases h
      · cases h
    · cases h
  new_put h := newF_congr (ev_put h)
  new_M := newF_congr fun y _ => by cases y <;> rfl
  new_ob := newF_congr fun y _ => by cases y <;> rfl
  val h := fun ρ a w hg => val_sound hT h hg
  val_wf h hw := valF_wf hT hw h
  val_put {s o d x} h := by simp only [info, ob_put_fun]; exact valF_congr (ev_put h)
  val_M {s o M} := by
    have : (s.withM M).ob = s.ob := rfl
    simp only [info, this]; exact valF_congr fun y _ => by cases y <;> rfl
  val_pure {s o j x} h := by
    simp only [info]
    have e : valF T o.op (s.setOb j x).eval (s.setOb j x).ob = valF T o.op s.eval (s.setOb j x).ob := valF_congr fun y _ => by cases y <;> rfl
    rw [e]
    unfold noLoad at h
    cases hop : o.op
    case load => rw [hop] at h; cases h
    case unOp u _ _ => cases u <;> rfl
    case call q =>
      obtain ⟨callee, args, ats⟩ := q
      cases callee
      case builtin b => cases b <;> rfl
      all_goals rfl
    all_goals rfl
  val_ob {s o r j x} h hj := by
    simp only [info] at h ⊢
    have e : valF T o.op (s.setOb j x).eval (s.setOb j x).ob = valF T o.op s.eval (s.setOb j x).ob := valF_congr fun y _ => by cases y <;> rfl
    rw [e]
    cases hop : o.op
    case load t y =>
      rw [hop] at h
      simp only [valF] at h ⊢
      split at h
      · rename_i id off he
        split at h
        · rename_i V q ti hob hti
          have hne : j ≠ id := fun e => by subst e; rw [hj] at hob; cases hob
          rw [S.ob_setOb_ne s x hne, hob, hti]; exact h
        · cases h
      · cases h
    case call q =>
      rw [hop] at h
      obtain ⟨cal, args, ats⟩ := q
      cases cal with
      | builtin b => cases b <;> exact h
      | value f => exact h
      | invoke r m => exact h
    case unOp op t y => rw [hop] at h; cases op <;> exact h
    all_goals (rw [hop] at h; exact h)

end
end Go.SX
