/- What one operation does to an abstract state, and that in a region that draws its order one order serves all. Generic over the program. -/
import Derived.Test.YtojdihbanakhgaaSxA
import Derived.Orders
import Derived.Still
import Derived.Handy
namespace Go.SX
open Go.RowKit (Below)

/-! ### States: small laws -/

theorem S.get_put (s : S) (d : Nat) (x : AV) (t : Nat) : (s.put (some d) x).get t = if d = t ∧ d < s.tmps.length then x else s.get t := by
  simp only [S.put, S.get, List.getD_eq_getElem?_getD, List.getElem?_set]
  by_cases h : d = t <;> by_cases h2 : d < s.tmps.length <;> simp [h, h2]
  · subst h; simp [h2]
  · subst h; simp [h2]

theorem S.get_put_ne (s : S) {d : Option Nat} (x : AV) {t : Nat} (h : d ≠ some t) : (s.put d x).get t = s.get t := by
  cases d with
  | none => rfl
  | some d => rw [S.get_put, if_neg]; rintro ⟨rfl, _⟩; exact h rfl

theorem S.ob_put (s : S) (d : Option Nat) (x : AV) (i : Nat) : (s.put d x).ob i = s.ob i := by cases d <;> rfl
theorem S.live_put (s : S) (d : Option Nat) (x : AV) : (s.put d x).live = s.live := by funext i; simp [S.live, S.ob_put]
theorem S.M_put (s : S) (d : Option Nat) (x : AV) : (s.put d x).M = s.M := by cases d <;> rfl
theorem S.objs_put (s : S) (d : Option Nat) (x : AV) : (s.put d x).objs = s.objs := by cases d <;> rfl
theorem S.len_put (s : S) (d : Option Nat) (x : AV) : (s.put d x).tmps.length = s.tmps.length := by cases d <;> simp [S.put]
theorem S.get_setOb (s : S) (i : Nat) (o : Ob) (t : Nat) : (s.setOb i o).get t = s.get t := rfl

theorem S.ob_setOb (s : S) (i : Nat) (o : Ob) (j : Nat) : (s.setOb i o).ob j = if i = j ∧ i < s.objs.length then o else s.ob j := by
  simp only [S.setOb, S.ob, List.getD_eq_getElem?_getD, List.getElem?_set]
  by_cases h : i = j <;> by_cases h2 : i < s.objs.length <;> simp [h, h2]
  · subst h; simp [h2]
  · subst h; simp [h2]

theorem S.ob_setOb_ne (s : S) {i : Nat} (o : Ob) {j : Nat} (h : i ≠ j) : (s.setOb i o).ob j = s.ob j := by
  rw [S.ob_setOb, if_neg]; rintro ⟨e, _⟩; exact h e

theorem S.ob_lt {s : S} {i T : Nat} {l : List AV} (h : s.ob i = .cells T l) : i < s.objs.length := by
  rcases Nat.lt_or_ge i s.objs.length with h' | h'
  · exact h'
  · simp [S.ob, List.getElem?_eq_none h'] at h

def S.withM (s : S) (M : Mem) : S := { s with M := M }
theorem S.put_put_comm (s : S) {d e : Option Nat} (x y : AV) (h : ∀ t, d = some t → e ≠ some t) : (s.put d x).put e y = (s.put e y).put d x := by
  cases d with
  | none => rfl
  | some d =>
    cases e with
    | none => rfl
    | some e =>
      have hne : d ≠ e := fun he => h d rfl (he ▸ rfl)
      simp [S.put, List.set_comm _ _ hne]
theorem S.put_withM (s : S) (d : Option Nat) (x : AV) (M : Mem) : (s.withM M).put d x = (s.put d x).withM M := by cases d <;> rfl
theorem S.setOb_withM (s : S) (i : Nat) (o : Ob) (M : Mem) : (s.withM M).setOb i o = (s.setOb i o).withM M := rfl
theorem S.put_setOb (s : S) (d : Option Nat) (x : AV) (i : Nat) (o : Ob) : (s.setOb i o).put d x = (s.put d x).setOb i o := by cases d <;> rfl
theorem S.get_withM (s : S) (M : Mem) (t : Nat) : (s.withM M).get t = s.get t := rfl
theorem S.ob_withM (s : S) (M : Mem) (t : Nat) : (s.withM M).ob t = s.ob t := rfl

def uav : AV := .v fun _ => undef

/-- Some local variables forgotten. -/
def S.drop (s : S) (ids : List Nat) : S := ids.foldl (fun s i => s.setOb i .none) s
theorem S.drop_put (s : S) (d : Option Nat) (x : AV) (ids : List Nat) : (s.put d x).drop ids = (s.drop ids).put d x := by
  induction ids generalizing s with
  | nil => rfl
  | cons i ids ih => simp only [S.drop, List.foldl_cons] at *; rw [← S.put_setOb, ih]
theorem S.drop_withM (s : S) (M : Mem) (ids : List Nat) : (s.withM M).drop ids = (s.drop ids).withM M := by
  induction ids generalizing s with
  | nil => rfl
  | cons i ids ih => simp only [S.drop, List.foldl_cons] at *; rw [S.setOb_withM, ih]
theorem S.drop_tmps (s : S) (ids : List Nat) : (s.drop ids).tmps = s.tmps := by
  induction ids generalizing s with
  | nil => rfl
  | cons i ids ih => simp only [S.drop, List.foldl_cons] at *; rw [ih]; rfl
theorem S.drop_M (s : S) (ids : List Nat) : (s.drop ids).M = s.M := by
  induction ids generalizing s with
  | nil => rfl
  | cons i ids ih => simp only [S.drop, List.foldl_cons] at *; rw [ih]; rfl
theorem S.ob_setOb_none (s : S) (i j : Nat) : (s.setOb i .none).ob j = if i = j then .none else s.ob j := by
  rw [S.ob_setOb]
  by_cases e : i = j
  · subst e
    by_cases h : i < s.objs.length
    · simp [h]
    · simp [h, S.ob]
  · simp [e]
theorem S.drop_ob (s : S) (ids : List Nat) (j : Nat) : (s.drop ids).ob j = if j ∈ ids then .none else s.ob j := by
  induction ids generalizing s with
  | nil => simp [S.drop]
  | cons i ids ih =>
    have := ih (s.setOb i .none)
    simp only [S.drop, List.foldl_cons] at *
    rw [this, S.ob_setOb_none]
    by_cases h1 : j ∈ ids <;> by_cases h2 : i = j <;> simp [h1, h2, eq_comm]
    intro h; exact absurd h.symm h2

theorem S.drop_live (s : S) (ids : List Nat) (i : Nat) : (s.drop ids).live i = (decide (i ∉ ids) && s.live i) := by
  unfold S.live
  rw [S.drop_ob]
  by_cases h : i ∈ ids <;> simp [h, Ob.live]
theorem S.live_of_drop {s : S} {ids : List Nat} {i : Nat} (h : (s.drop ids).live i = true) : s.live i = true := by
  rw [S.drop_live] at h; simp only [Bool.and_eq_true] at h; exact h.2

/-! ### Operands -/

def AV.ofV (x : Value) : AV :=
  match x with
  | .int k n => .int k n
  | .bool true => .tt
  | .bool false => .ff
  | .slice none 0 0 => .nils
  | x => .v fun _ => x

theorem AV.ofV_den (x : Value) (ρ : Nat → Nat) : (AV.ofV x).den ρ = x := by
  unfold AV.ofV; split <;> simp [AV.den]
theorem AV.ofV_ground (x : Value) : (AV.ofV x).ground = true := by
  unfold AV.ofV; split <;> simp [AV.ground, AV.sure, AV.wf]

def S.eval (s : S) : Operand → AV
  | .tmp t => s.get t
  | .const v => AV.ofV v
  | .global g => .el (fun _ => g) (fun _ => 0)
  | .func f => .clo (.func f) [] []

theorem S.eval_wf {s : S} (h : s.WF) (x : Operand) : (s.eval x).wf s.live = true := by
  cases x with
  | tmp t => exact h.tmps t
  | const v => exact AV.ground_wf (AV.ofV_ground v) _
  | global g => simp [S.eval, AV.wf]
  | func f => simp [S.eval, AV.wf, AV.wfL]

theorem Gam.eval {c : Ct} {ρ : Nat → Nat} {s : S} {a : Act} {w : World} (h : Gam c ρ s a w) (x : Operand) : Den ρ (s.eval x) (a.eval x) := by
  cases x with
  | tmp t => exact h.tmp t
  | const v => exact .inr (AV.ofV_den v ρ).symm
  | global g => exact .inr (by simp [S.eval, Act.eval, AV.den])
  | func f => exact .inr (by simp [S.eval, Act.eval, AV.den, AV.denL])

theorem S.eval_put_ne (s : S) {d : Option Nat} (x : AV) {y : Operand} (h : ∀ t, d = some t → y ≠ .tmp t) : (s.put d x).eval y = s.eval y := by
  cases y with
  | tmp t => exact S.get_put_ne s x (fun e => h t e rfl)
  | _ => rfl

/-! ### One operation, said of worlds -/

def gamNE (c : Ct) (s : S) : Prop := ∃ ρ a w, Gam c ρ s a w

section
variable (P : Program) (c : Ct)

/-- In a frame and a world that s describes, the operation yields what r describes, and changes nothing. -/
def Reads (o : Oper) (s : S) (r : AV) : Prop :=
  ∀ ρ a w, Gam c ρ s a w → ∃ v, (execOp a.eval o).run P w = .ok (.value v) w ∧ Den ρ r v

/-- A block that is not ours to write. -/
def Ct.old (c : Ct) (b : Nat) : Prop := b < c.B0 ∧ c.lent b = false

/-- From M and w to M' and w': what is not known is not touched; unless 'up', nothing is forgotten. -/
structure Grow (up : Bool) (M : Mem) (w : World) (M' : Mem) (w' : World) : Prop where
  le : up = false → M.le M'
  on : M'.on w'
  os : w'.os = w.os
  tape : w'.tape = w.tape
  output : w'.output = w.output
  froz : ∀ a, w'.frozen? a = w.frozen? a
  size : w.heap.size ≤ w'.heap.size
  block : ∀ b, b < w.heap.size → (M b = none ∨ c.old b) → w'.heap[b]? = w.heap[b]?
  fresh : ∀ b, M' b ≠ none → M b ≠ none ∨ w.heap.size ≤ b

/-- What an operation comes to: a value, of its own or of the function that it enters. -/
def ResV (F : Value → World → Prop) : Result Next → Prop
  | .ok (.value v) w' => F v w'
  | .ok (.enter f args) w' => Calls P f args w' fun e w'' => ∃ v, e = .returned v ∧ F v w''
  | _ => False

def Effs (up : Bool) (o : Oper) (s : S) (k : Mem → AV → Prop) : Prop :=
  ∀ ρ a w, Gam c ρ s a w → ResV P (fun v w' => ∃ M' r, v = r.val ∧ r.ground = true ∧ Grow c up s.M w M' w' ∧ k M' r) ((execOp a.eval o).run P w)

end

/-- What an operation that makes a row makes: its element's type, its length and its first cells, the value by its block's number; and under which condition. -/
structure NewI where
  T : Nat
  N : Unit → Nat
  cells : List AV
  more : Unit → List Value
  r : Nat → AV
  side : Unit → Prop

def NewI.frag (i : NewI) : Frag := .row i.T (i.N ()) (AV.denL (fun _ => 0) i.cells ++ i.more ())

/-- What the types' table says of a type. -/
structure TyI where
  size : Nat
  agg : Bool
  zero : List AV
  fields : List (Nat × Nat)
  elem : Nat
  esize : Nat
  bytes : Nat
  ik : Option IntKind

structure Md where
  det : Bool := false
  upd : Bool := false
  avoid : List Nat := []

structure Tab where
  ty : Nat → Option TyI

section
variable (P : Program) (c : Ct)

/-- How the syntax of an operation is read: what an allocation, a store and a new row come to in a state; a value that hangs on operands and local variables alone. -/
structure Info where
  alloc : Oper → S → Option (Nat × List AV)
  store : Oper → S → Option (Nat × Nat × List AV)
  new : Oper → S → Option NewI
  val : Oper → S → Option AV

inductive Kd where
  | r | e | n | f | w | bad
  deriving DecidableEq

def kd (o : Oper) : Kd :=
  match o.op with
  | .move _ | .assign _ | .pick .. | .load .. | .nilCheck _ | .binOp .. | .unOp .. | .convert .. | .makeFunc .. | .slice .. | .fieldAddr .. | .field .. | .indexAddr .. | .index .. | .extract .. | .build .. => .r
  | .alloc _ | .box .. => .f
  | .buildSlice .. | .makeSlice .. => .n
  | .store .. => .w
  | .call { callee := .builtin .len, .. } | .call { callee := .builtin .cap, .. } | .call { callee := .builtin .min, .. } | .call { callee := .builtin .max, .. } => .r
  | .call _ => .e
  | _ => .bad

end

/-- It does not look at local variables. -/
def noLoad (o : Oper) : Bool :=
  match o.op with
  | .load .. => false
  | _ => true

/-- What the reading of the syntax owes. -/
structure Info.Ok (I : Info) (P : Program) : Prop where
  alloc : ∀ {c ρ s a w o T l}, I.alloc o s = some (T, l) → Gam c ρ s a w →
    ∃ cs, DenL ρ l cs ∧ (execOp a.eval o).run P w = .ok (.value (.pointer (some ⟨w.heap.size, 0, none⟩))) (w.alloc (.cells cs.toArray T (0, 0)))
  alloc_wf : ∀ {s o T l}, I.alloc o s = some (T, l) → s.WF → AV.wfL s.live l = true
  alloc_put : ∀ {s o d x}, (∀ y ∈ o.op.operands, ∀ t, d = some t → y ≠ .tmp t) → I.alloc o (s.put d x) = I.alloc o s
  alloc_M : ∀ {s o M}, I.alloc o (s.withM M) = I.alloc o s
  alloc_ob : ∀ {s o i x}, I.alloc o (s.setOb i x) = I.alloc o s
  store : ∀ {c ρ s a w o i T l'}, I.store o s = some (i, T, l') → Gam c ρ s a w → s.live i = true ∧
    ∃ w' cs', (execOp a.eval o).run P w = .ok .skip w' ∧ DenL ρ l' cs' ∧ w' = { w with heap := w.heap.setIfInBounds (ρ i) (.cells cs'.toArray T (0, 0)) }
  store_wf : ∀ {s o i T l'}, I.store o s = some (i, T, l') → s.WF → AV.wfL s.live l' = true
  store_put : ∀ {s o d x}, (∀ y ∈ o.op.operands, ∀ t, d = some t → y ≠ .tmp t) → I.store o (s.put d x) = I.store o s
  store_M : ∀ {s o M}, I.store o (s.withM M) = I.store o s
  store_ob : ∀ {s o i T l' j x}, I.store o s = some (i, T, l') → j ≠ i → I.store o (s.setOb j x) = some (i, T, l')
  new : ∀ {c ρ s a w o i}, I.new o s = some i → i.side () → Gam c ρ s a w →
    ∃ ob, i.frag.on (some ob) ∧ (execOp a.eval o).run P w = .ok (.value (i.r w.heap.size).val) (w.alloc ob)
  new_r : ∀ {s o i}, I.new o s = some i → ∀ b, (i.r b).ground = true
  new_put : ∀ {s o d x}, (∀ y ∈ o.op.operands, ∀ t, d = some t → y ≠ .tmp t) → I.new o (s.put d x) = I.new o s
  new_M : ∀ {s o M}, I.new o (s.withM M) = I.new o s
  new_ob : ∀ {s o i x}, I.new o (s.setOb i x) = I.new o s
  val : ∀ {c o s r}, I.val o s = some r → Reads P c o s r
  val_wf : ∀ {s o r}, I.val o s = some r → s.WF → r.wf s.live = true
  val_put : ∀ {s o d x}, (∀ y ∈ o.op.operands, ∀ t, d = some t → y ≠ .tmp t) → I.val o (s.put d x) = I.val o s
  val_M : ∀ {s o M}, I.val o (s.withM M) = I.val o s
  val_ob : ∀ {s o r j x}, I.val o s = some r → s.ob j = .none → I.val o (s.setOb j x) = some r
  val_pure : ∀ {s o j x}, noLoad o = true → I.val o (s.setOb j x) = I.val o s

/-! ### The transformers -/

section
variable (P : Program) (I : Info) (c : Ct)

/-- Where there is such a frame and world, and the state is well formed. -/
def G (K : S → Prop) (s : S) : Prop := gamNE c s → s.WF → K s

def TR (m : Md) (o : Oper) (K : S → Prop) (s : S) : Prop :=
  ∃ r, r.wf (s.drop m.avoid).live = true ∧ Reads P c o (s.drop m.avoid) r ∧ (m.det = true → I.val o s = some r) ∧ G c K (s.put o.dst r)
def TE (m : Md) (o : Oper) (K : S → Prop) (s : S) : Prop := Effs P c m.upd o s fun M' r => G c K ((s.withM M').put o.dst r)
def TN (o : Oper) (K : S → Prop) (s : S) : Prop :=
  ∃ i, I.new o s = some i ∧ i.side () ∧ ∀ b, s.M b = none → c.B0 ≤ b → G c K ((s.withM (s.M.set b i.frag)).put o.dst (i.r b))
def TF (o : Oper) (K : S → Prop) (s : S) : Prop :=
  ∃ d T l, o.dst = some d ∧ I.alloc o s = some (T, l) ∧ s.ob d = .none ∧ d < s.objs.length ∧ G c K ((s.setOb d (.cells T l)).put (some d) (.ptr d 0))
/-- A store into memory that is known. -/
def Upds (o : Oper) (s : S) (M' : Mem) : Prop :=
  ∀ ρ a w, Gam c ρ s a w → ∃ w', (execOp a.eval o).run P w = .ok .skip w' ∧ Grow c true s.M w M' w'

def TW (m : Md) (o : Oper) (K : S → Prop) (s : S) : Prop :=
  (∃ M', o.dst = none ∧ m.avoid = [] ∧ Upds P c o s M' ∧ G c K (s.withM M')) ∨
  ∃ i T l', o.dst = none ∧ I.store o s = some (i, T, l') ∧ (m.avoid ≠ [] → i ∈ m.avoid) ∧ G c K (s.setOb i (.cells T l'))

def TT (m : Md) (o : Oper) (K : S → Prop) (s : S) : Prop :=
  match kd o with
  | .r => TR P I c m o K s
  | .e => TE P c m o K s
  | .n => TN I c o K s
  | .f => TF I c o K s
  | .w => TW P I c m o K s
  | .bad => False

def guardV (ops : Array Oper) (o : Oper) (s : S) : Option Bool :=
  match o.guard with
  | none => some true
  | some (j, want) =>
    match (ops[j]?).bind (·.dst) with
    | some t => match s.get t with
      | .tt => some want
      | .ff => some (!want)
      | .v x => match x () with
        | .bool _ => none
        | _ => some false
      | _ => none
    | none => none

def TG (ops : Array Oper) (m : Md) (o : Oper) (K : S → Prop) (s : S) : Prop :=
  match guardV ops o s with
  | some true => TT P I c m o K s
  | some false => G c K (s.put o.dst uav)
  | none => False

end

/-! ### They are sound -/

section
variable {P : Program} {I : Info} {c : Ct} {ρ : Nat → Nat} {s : S} {a : Act} {w : World}

theorem Act.getD_put (a : Act) (d : Nat) (v : Value) (t : Nat) : (a.put (some d) v).tmps.getD t undef = if d = t ∧ d < a.tmps.size then v else a.tmps.getD t undef := by
  simp only [Act.put, Array.getD_eq_getD_getElem?, Array.getElem?_setIfInBounds]
  by_cases h : d = t <;> by_cases h2 : d < a.tmps.size <;> simp [h, h2]
  · subst h; simp [h2]
  · subst h; simp [h2]

theorem Gam.put (h : Gam c ρ s a w) {x : AV} {v : Value} (hx : Den ρ x v) (d : Option Nat) : Gam c ρ (s.put d x) (a.put d v) w := by
  cases d with
  | none => exact h
  | some d =>
    refine ⟨by simp [Act.put, S.put, h.tsz], fun t => ?_, h.defers, h.mem, h.ob, h.inj, h.fr, h.new⟩
    rw [Act.getD_put, S.get_put, h.tsz]
    by_cases e : d = t ∧ d < s.tmps.length
    · rw [if_pos e, if_pos e]; exact hx
    · rw [if_neg e, if_neg e]; exact h.tmp t

theorem S.WF.put (h : s.WF) {x : AV} (hx : x.wf s.live = true) (d : Option Nat) : (s.put d x).WF := by
  cases d with
  | none => exact h
  | some d =>
    refine ⟨fun t => ?_, h.objs, by simpa [S.put] using h.len⟩
    show ((s.put (some d) x).get t).wf s.live = true
    rw [S.get_put]
    split
    · exact hx
    · exact h.tmps t

theorem uav_ground : uav.ground = true := rfl

theorem S.WF.withM (h : s.WF) (M : Mem) : (s.withM M).WF := ⟨h.tmps, h.objs, h.len⟩

theorem Gam.grow (h : Gam c ρ s a w) {up : Bool} {M' : Mem} {w' : World} (hg : Grow c up s.M w M' w') : Gam c ρ (s.withM M') a w' := by
  refine ⟨h.tsz, h.tmp, h.defers, hg.on, fun i T l hi => ?_, h.inj, ?_, fun b hb => ?_⟩
  rotate_left 2
  · rcases hg.fresh b hb with e | e
    · exact h.new b e
    · exact .inr (Nat.le_trans h.fr.size e)
  · obtain ⟨cs, h1, h2, h3, h4⟩ := h.ob i T l hi
    have hlt : ρ i < w.heap.size := (Array.getElem?_eq_some_iff.1 h1).1
    refine ⟨cs, by rw [hg.block _ hlt (.inl h3)]; exact h1, h2, ?_, h4⟩
    cases hm : M' (ρ i) with
    | none => exact hm
    | some f =>
      rcases hg.fresh (ρ i) (by simp [hm]) with e | e
      · exact absurd h3 e
      · omega
  · exact ⟨hg.os.trans h.fr.os, hg.tape.trans h.fr.tape, hg.output.trans h.fr.output, fun a => (hg.froz a).trans (h.fr.froz a), Nat.le_trans h.fr.size hg.size,
      fun b hb hl => by rw [hg.block b (Nat.lt_of_lt_of_le hb h.fr.size) (.inr ⟨hb, hl⟩)]; exact h.fr.block b hb hl⟩

/-- What says less. -/
structure S.Weak (s' s : S) : Prop where
  tmps : s'.tmps = s.tmps
  ob : ∀ i, s'.ob i = .none ∨ s'.ob i = s.ob i
  M : s'.M.le s.M

theorem S.Weak.drop (s : S) (ids : List Nat) : (s.drop ids).Weak s :=
  ⟨S.drop_tmps s ids, fun j => by rw [S.drop_ob]; split <;> simp, by rw [S.drop_M]; exact Mem.le_refl _⟩

theorem Gam.weak {s' : S} (h : Gam c ρ s a w) (hw : s'.Weak s) : Gam c ρ s' a w := by
  have lv : ∀ i, s'.live i = true → s.live i = true := fun i hi => by
    unfold S.live at *
    rcases hw.ob i with e | e
    · rw [e] at hi; cases hi
    · rw [e] at hi; exact hi
  refine ⟨by rw [hw.tmps]; exact h.tsz, fun t => ?_, h.defers, Mem.on_le hw.M h.mem, fun i T l hi => ?_, fun i j hi hj => h.inj i j (lv i hi) (lv j hj), h.fr, fun b hb => h.new b fun e => by
    cases hm : s'.M b with
    | none => exact hb hm
    | some f => obtain ⟨g, hg, _⟩ := hw.M b f hm; rw [e] at hg; cases hg⟩
  · have : s'.get t = s.get t := by simp only [S.get, hw.tmps]
    rw [this]; exact h.tmp t
  · rcases hw.ob i with e | e
    · rw [e] at hi; cases hi
    · rw [e] at hi
      obtain ⟨cs, h1, h2, h3, h4⟩ := h.ob i T l hi
      refine ⟨cs, h1, h2, ?_, h4⟩
      cases hm : s'.M (ρ i) with
      | none => rfl
      | some f => obtain ⟨g, hg, _⟩ := hw.M _ f hm; rw [h3] at hg; cases hg

theorem Gam.unput {d : Option Nat} {x : AV} (h : Gam c ρ (s.put d x) a w) : ∃ v, Gam c ρ s (a.put d v) w := by
  cases d with
  | none => exact ⟨undef, h⟩
  | some d =>
    refine ⟨(s.get d).den ρ, ?_⟩
    have h1 := h.put (x := s.get d) (v := (s.get d).den ρ) (.inr rfl) (some d)
    have e : (s.put (some d) x).put (some d) (s.get d) = s := by
      simp only [S.put, List.set_set]
      have : s.tmps.set d (s.get d) = s.tmps := by
        apply List.ext_getElem? fun i => ?_
        rw [List.getElem?_set]
        split
        · rename_i e; subst e
          split
          · rename_i hl; simp [S.get, List.getElem?_eq_getElem hl]
          · rename_i hl; rw [List.getElem?_eq_none (by omega)]
        · rfl
      rw [this]
    rwa [e] at h1

theorem Gam.fresh (h : Gam c ρ s a w) : s.M w.heap.size = none := by
  cases hm : s.M w.heap.size with
  | none => rfl
  | some f =>
    have := h.mem _ f hm
    cases f with
    | obj o => simp [Frag.on] at this
    | row T N k => obtain ⟨r, h1, _⟩ := this; simp at h1

theorem heap_alloc_lt (w : World) (o : Obj) {k : Nat} (h : k < w.heap.size) : (w.alloc o).heap[k]? = w.heap[k]? := Go.RowKit.Below.heap_alloc w o k h
theorem heap_alloc_self (w : World) (o : Obj) : (w.alloc o).heap[w.heap.size]? = some o := by show (w.heap.push o)[w.heap.size]? = some o; simp

theorem Mem.on_alloc {M : Mem} (h : M.on w) (o : Obj) : M.on (w.alloc o) := by
  intro b f hf
  have h1 := h b f hf
  have hlt : b < w.heap.size := by
    rcases Nat.lt_or_ge b w.heap.size with h' | h'
    · exact h'
    · rw [Array.getElem?_eq_none h'] at h1
      cases f with
      | obj o => simp [Frag.on] at h1
      | row T N k => obtain ⟨r, h2, _⟩ := h1; cases h2
  rw [heap_alloc_lt _ _ hlt]; exact h1

theorem Grow.alloc (hm : s.M.on w) (hf : s.M w.heap.size = none) {f : Frag} {o : Obj} (ho : f.on (some o)) (hz : ∀ off, frozAt (some o) off = false) : Grow c false s.M w (s.M.set w.heap.size f) (w.alloc o) := by
  refine ⟨fun _ => Mem.le_set hf, Mem.on_set (Mem.on_alloc hm o) (by rw [heap_alloc_self]; exact ho), rfl, rfl, rfl, froz_alloc w hz, by simp, fun b hb _ => heap_alloc_lt _ _ hb, fun b hb => ?_⟩
  unfold Mem.set at hb
  by_cases e : b = w.heap.size
  · exact .inr (by omega)
  · rw [if_neg e] at hb; exact .inl hb

theorem Gam.alloc (h : Gam c ρ s a w) (hwf : s.WF) {d T : Nat} {l : List AV} {cs : List Value} (hd : s.ob d = .none) (hlt : d < s.objs.length) (hl : DenL ρ l cs) (hlw : AV.wfL s.live l = true) :
    Gam c (fun i => if i = d then w.heap.size else ρ i) ((s.setOb d (.cells T l)).put (some d) (.ptr d 0)) (a.put (some d) (.pointer (some ⟨w.heap.size, 0, none⟩))) (w.alloc (.cells cs.toArray T (0, 0))) := by
  have hnl : ∀ i, s.live i = true → i ≠ d := fun i hi e => by subst e; simp [S.live, hd, Ob.live] at hi
  have hcg : ∀ i, s.live i = true → ρ i = (fun i => if i = d then w.heap.size else ρ i) i := fun i hi => by simp [hnl i hi]
  have h1 : Gam c (fun i => if i = d then w.heap.size else ρ i) (s.setOb d (.cells T l)) a (w.alloc (.cells cs.toArray T (0, 0))) := by
    refine ⟨h.tsz, fun t => Den.congr hcg (hwf.tmps t) (h.tmp t), h.defers, Mem.on_alloc h.mem _, fun i T' l' hi => ?_, fun i j hi hj e => ?_, ?_, h.new⟩
    · rw [S.ob_setOb] at hi
      by_cases e : d = i ∧ d < s.objs.length
      · rw [if_pos e] at hi
        obtain ⟨rfl, _⟩ := e
        cases hi
        refine ⟨cs, by simp only [if_true]; exact heap_alloc_self _ _, DenL.congr hcg hlw hl, ?_, ?_⟩
        · simp only [if_true]; exact h.fresh
        · simpa [Ct.B0] using h.fr.size
      · rw [if_neg e] at hi
        have hne : i ≠ d := fun e' => e ⟨e'.symm, hlt⟩
        obtain ⟨cs', k1, k2, k3, k4⟩ := h.ob i T' l' hi
        have : ρ i < w.heap.size := (Array.getElem?_eq_some_iff.1 k1).1
        refine ⟨cs', ?_, DenL.congr hcg (hwf.objs i T' l' hi) k2, ?_, ?_⟩
        · simp only [if_neg hne]; rw [heap_alloc_lt _ _ this]; exact k1
        · simp only [if_neg hne]; exact k3
        · simp only [if_neg hne]; exact k4
    · have lv : ∀ i, (s.setOb d (.cells T l)).live i = true → i ≠ d → s.live i = true := fun i hi hne => by
        simpa [S.live, S.ob_setOb_ne s _ (Ne.symm hne)] using hi
      have lt : ∀ i, s.live i = true → ρ i < w.heap.size := fun i hi => by
        unfold S.live at hi
        cases ho : s.ob i with
        | none => rw [ho] at hi; cases hi
        | cells T' l' => obtain ⟨cs', k1, _⟩ := h.ob i T' l' ho; exact (Array.getElem?_eq_some_iff.1 k1).1
      by_cases ei : i = d <;> by_cases ej : j = d
      · rw [ei, ej]
      · exfalso; simp only [ei, ej, if_true, if_false] at e; have := lt j (lv j hj ej); omega
      · exfalso; simp only [ei, ej, if_true, if_false] at e; have := lt i (lv i hi ei); omega
      · simp only [ei, ej, if_false] at e; exact h.inj i j (lv i hi ei) (lv j hj ej) e
    · exact ⟨h.fr.os, h.fr.tape, h.fr.output, fun a => (froz_alloc w (frozAt_z) a).trans (h.fr.froz a), by have := h.fr.size; simp; omega, fun b hb hl => by rw [heap_alloc_lt _ _ (Nat.lt_of_lt_of_le hb h.fr.size)]; exact h.fr.block b hb hl⟩
  exact h1.put (.inr (by simp [AV.den])) _

theorem S.WF.alloc (hwf : s.WF) {d T : Nat} {l : List AV} (hlt : d < s.objs.length) (hlw : AV.wfL s.live l = true) :
    ((s.setOb d (.cells T l)).put (some d) (.ptr d 0)).WF := by
  have hm : ∀ i, s.live i = true → (s.setOb d (.cells T l)).live i = true := fun i hi => by
    unfold S.live at *
    rw [S.ob_setOb]
    split
    · rfl
    · exact hi
  have : (s.setOb d (.cells T l)).WF := by
    refine ⟨fun t => AV.wf_mono hm _ (hwf.tmps t), fun i T' l' hi => ?_, by simpa [S.setOb] using hwf.len⟩
    rw [S.ob_setOb] at hi
    split at hi
    · cases hi; exact AV.wfL_mono hm _ hlw
    · exact AV.wfL_mono hm _ (hwf.objs i T' l' hi)
  refine this.put ?_ _
  simp [AV.wf, S.live, S.ob_setOb, hlt, Ob.live]

theorem Gam.store (h : Gam c ρ s a w) {i T : Nat} {l' : List AV} {cs' : List Value} (hi : s.live i = true) (hl : DenL ρ l' cs') :
    Gam c ρ (s.setOb i (.cells T l')) a { w with heap := w.heap.setIfInBounds (ρ i) (.cells cs'.toArray T (0, 0)) } := by
  have lt : ∀ j, s.live j = true → ρ j < w.heap.size ∧ s.M (ρ j) = none ∧ c.B0 ≤ ρ j := fun j hj => by
    unfold S.live at hj
    cases ho : s.ob j with
    | none => rw [ho] at hj; cases hj
    | cells T' l' => obtain ⟨cs', k1, _, k3, k4⟩ := h.ob j T' l' ho; exact ⟨(Array.getElem?_eq_some_iff.1 k1).1, k3, k4⟩
  obtain ⟨hlt, hM, hB⟩ := lt i hi
  have lv : ∀ j, (s.setOb i (.cells T l')).live j = true → s.live j = true := fun j hj => by
    by_cases e : i = j
    · subst e; exact hi
    · simpa [S.live, S.ob_setOb_ne s _ e] using hj
  refine ⟨h.tsz, h.tmp, h.defers, fun b f hb => ?_, fun j T' k hj => ?_, fun j j' hj hj' e => h.inj j j' (lv j hj) (lv j' hj') e, ?_, h.new⟩
  · have hne : ρ i ≠ b := fun e => by subst e; have hb' : s.M (ρ i) = some f := hb; rw [hM] at hb'; cases hb'
    rw [Array.getElem?_setIfInBounds_ne hne]
    exact h.mem b f hb
  · rw [S.ob_setOb] at hj
    by_cases e : i = j ∧ i < s.objs.length
    · rw [if_pos e] at hj
      obtain ⟨rfl, _⟩ := e
      cases hj
      exact ⟨cs', by simp [hlt], hl, hM, hB⟩
    · rw [if_neg e] at hj
      obtain ⟨k', k1, k2, k3, k4⟩ := h.ob j T' k hj
      have hij : i ≠ j := fun e' => e ⟨e', by
        subst e'; exact S.ob_lt hj⟩
      have hne : ρ i ≠ ρ j := fun e' => hij (h.inj i j hi (by simp [S.live, hj, Ob.live]) e')
      exact ⟨k', by rw [Array.getElem?_setIfInBounds_ne hne]; exact k1, k2, k3, k4⟩
  · refine ⟨h.fr.os, h.fr.tape, h.fr.output, fun a => ?_, by simpa using h.fr.size, fun b hb hl => ?_⟩
    · refine (froz_of (b := ρ i) (fun k hk => Array.getElem?_setIfInBounds_ne (Ne.symm hk)) (fun off => ?_) (fun off => ?_) a).trans (h.fr.froz a)
      · simp only [Array.getElem?_setIfInBounds_self_of_lt hlt]; exact frozAt_z off
      · unfold S.live at hi
        cases ho : s.ob i with
        | none => rw [ho] at hi; cases hi
        | cells T' l => obtain ⟨cs, k1, _⟩ := h.ob i T' l ho; rw [k1]; exact frozAt_z off
    have hne : ρ i ≠ b := fun e => by
      subst e
      unfold Ct.B0 at hB; omega
    rw [Array.getElem?_setIfInBounds_ne hne]
    exact h.fr.block b hb hl

theorem S.WF.store (hwf : s.WF) {i T : Nat} {l' : List AV} (hl : AV.wfL s.live l' = true) : (s.setOb i (.cells T l')).WF := by
  have hm : ∀ j, s.live j = true → (s.setOb i (.cells T l')).live j = true := fun j hj => by
    unfold S.live at *
    rw [S.ob_setOb]
    split
    · rfl
    · exact hj
  refine ⟨fun t => AV.wf_mono hm _ (hwf.tmps t), fun j T' k hj => ?_, by simpa [S.setOb] using hwf.len⟩
  rw [S.ob_setOb] at hj
  split at hj
  · cases hj; exact AV.wfL_mono hm _ hl
  · exact AV.wfL_mono hm _ (hwf.objs j T' k hj)

/-- What an abstract step has come to. -/
def Went (c : Ct) (K : S → Prop) (a : Act) (w : World) : Prop := ∃ ρ s, s.WF ∧ Gam c ρ s a w ∧ K s

theorem Went.of_G {K : S → Prop} (hg : Gam c ρ s a w) (hw : s.WF) (h : G c K s) : Went c K a w := ⟨ρ, s, hw, hg, h ⟨ρ, a, w, hg⟩ hw⟩

theorem ResV.upon {o : Oper} {F : Value → World → Prop} {K : Act → World → Prop} {Q : Exit → Act → World → Prop} {res : Result Next} (h : ResV P F res) (hF : ∀ v w', F v w' → K (a.put o.dst v) w') :
    o.upon P a K Q res := by
  cases res with
  | ok n w' =>
    cases n <;> simp only [ResV] at h <;> simp only [Oper.upon] <;>
      first
        | exact hF _ _ h
        | exact h.elim
        | (refine Calls.mono h fun e w'' he => ?_
           obtain ⟨v, rfl, hf⟩ := he
           exact hF _ _ hf)
  | halt x w' => simp only [ResV] at h

theorem ResV.mono {F F' : Value → World → Prop} {res : Result Next} (h : ResV P F res) (hF : ∀ v w', F v w' → F' v w') : ResV P F' res := by
  cases res with
  | ok n w' =>
    cases n <;> simp only [ResV] at h ⊢ <;>
      first
        | exact hF _ _ h
        | exact Calls.mono h fun e w'' ⟨v, hv, hf⟩ => ⟨v, hv, hF _ _ hf⟩
  | halt x w' => simp only [ResV] at h

theorem ResV.exists {F : Value → World → Prop} {res : Result Next} (h : ResV P F res) : ∃ v w', F v w' := by
  cases res with
  | ok n w' =>
    cases n <;> simp only [ResV] at h <;>
      first
        | exact ⟨_, _, h⟩
        | (obtain ⟨e, w'', fr, ⟨v, _, hf⟩, _⟩ := h []; exact ⟨_, _, hf⟩)
  | halt x w' => simp only [ResV] at h

theorem TT.sound (hI : I.Ok P) {m : Md} {o : Oper} {K : S → Prop} {Q : Exit → Act → World → Prop} (hg : Gam c ρ s a w) (hw : s.WF) (h : TT P I c m o K s) : o.wp P a w (Went c K) Q := by
  unfold TT at h
  cases hk : kd o <;> simp only [hk] at h
  · obtain ⟨r, hr, hrd, _, hK⟩ := h
    obtain ⟨v, hrun, hden⟩ := hrd ρ a w (hg.weak (S.Weak.drop s m.avoid))
    simp only [Oper.wp, hrun, Oper.upon]
    exact Went.of_G (hg.put hden _) (hw.put (AV.wf_mono (fun _ => S.live_of_drop) _ hr) _) hK
  · have h1 := h ρ a w hg
    unfold Oper.wp
    have fin : ∀ (v : Value) (w' : World), (∃ M' r, v = r.val ∧ r.ground = true ∧ Grow c m.upd s.M w M' w' ∧ G c K ((s.withM M').put o.dst r)) → Went c K (a.put o.dst v) w' := by
      rintro v w' ⟨M', r, rfl, hr, hgr, hK⟩
      exact Went.of_G ((hg.grow hgr).put (Den.of_ground hr ρ) _) ((hw.withM M').put (AV.ground_wf hr _) _) hK
    exact ResV.upon h1 fin
  · obtain ⟨i, hi, hs, hK⟩ := h
    obtain ⟨ob, hob, hrun⟩ := hI.new hi hs hg
    simp only [Oper.wp, hrun, Oper.upon]
    exact Went.of_G ((hg.grow (Grow.alloc hg.mem hg.fresh hob (frozAt_row hob))).put (Den.of_ground (hI.new_r hi _) ρ) _) ((hw.withM _).put (AV.ground_wf (hI.new_r hi _) _) _)
      (hK _ hg.fresh (by simpa [Ct.B0] using hg.fr.size))
  · obtain ⟨d, T, l, hd, hal, hob, hlt, hK⟩ := h
    obtain ⟨cs, hl, hrun⟩ := hI.alloc hal hg
    simp only [Oper.wp, hrun, Oper.upon, hd]
    exact Went.of_G (hg.alloc hw hob hlt hl (hI.alloc_wf hal hw)) (hw.alloc hlt (hI.alloc_wf hal hw)) hK
  · rcases h with ⟨M', hd, _, hup, hK⟩ | ⟨i, T, l', hd, hst, _, hK⟩
    · obtain ⟨w', hrun, hgr⟩ := hup ρ a w hg
      simp only [Oper.wp, hrun, Oper.upon, hd]
      exact Went.of_G (hg.grow hgr) (hw.withM M') hK
    obtain ⟨hlv, w', cs', hrun, hl, rfl⟩ := hI.store hst hg
    simp only [Oper.wp, hrun, Oper.upon, hd]
    exact Went.of_G (hg.store hlv hl) (hw.store (hI.store_wf hst hw)) hK

theorem guard_sound {ops : Array Oper} {o : Oper} {x : Bool} (hg : Gam c ρ s a w) (h : guardV ops o s = some x) : Region.wanted o (yielded ops a.tmps) = x := by
  unfold guardV at h
  unfold Region.wanted
  cases hgd : o.guard with
  | none => rw [hgd] at h; simp at h; simp [← h]
  | some p =>
    obtain ⟨j, want⟩ := p
    simp only [hgd] at h ⊢
    unfold yielded
    cases ht : (ops[j]?).bind (·.dst) with
    | none => simp [ht] at h
    | some t =>
      simp only [ht] at h
      have hd := hg.tmp t
      have key : ∀ y : Bool, Den ρ (if y then AV.tt else AV.ff) (a.tmps.getD t undef) → a.tmps[t]? = some (.bool y) := fun y hy => by
        have e : a.tmps.getD t undef = .bool y := by
          cases y <;> simpa [Den, AV.den] using hy
        rw [Array.getD_eq_getD_getElem?] at e
        cases hx : a.tmps[t]? with
        | none => simp [hx, undef] at e
        | some v => simp [hx] at e; rw [e]
      cases hs : s.get t <;> rw [hs] at h hd <;> simp at h
      · rename_i v
        have e : a.tmps.getD t undef = v () := by simpa [Den, AV.den] using hd
        rw [Array.getD_eq_getD_getElem?] at e
        cases hx : a.tmps[t]? with
        | none =>
          split at h
          · cases h
          · cases h; simp [hx]
        | some z =>
          rw [hx] at e
          simp only [Option.getD_some] at e
          rw [← e] at h
          cases z <;> simp at h <;> (subst h; simp [hx])
      · subst h; have := key true hd; simp [this]
      · subst h; have := key false hd; simp [this]

theorem TG.sound (hI : I.Ok P) {ops : Array Oper} {m : Md} {i : Nat} {o : Oper} (ho : ops[i]? = some o) {K : S → Prop} {Q : Exit → Act → World → Prop} (hg : Gam c ρ s a w) (hw : s.WF)
    (h : TG P I c ops m o K s) : wpOp P ops Q i (Went c K) a w := by
  unfold TG at h
  unfold wpOp
  simp only [ho]
  cases hgv : guardV ops o s with
  | none => rw [hgv] at h; exact h.elim
  | some x =>
    rw [hgv] at h
    rw [guard_sound hg hgv]
    cases x with
    | true => exact .inl (TT.sound hI hg hw h)
    | false =>
      simp only [Bool.false_eq_true, if_false]
      have : uav.val = undef := rfl
      exact Went.of_G (hg.put (.inr rfl) _) (hw.put (AV.ground_wf uav_ground _) _) h

end
end Go.SX
