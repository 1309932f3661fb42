/- Functions and their code; how loops are begun. -/
import Derived.Test.YtojdihbanakhgaaSxL
namespace Go.SX
open Go.RowKit (Below)

/-- Function number f has this code, these results and so many temporaries. -/
structure FnOk (f : Nat) (q : Unit → Q) (rs : List ResultVar) (n : Nat) : Prop where
  fn : ∃ fn : Func, PR.funcs[f]? = some fn ∧ (∀ args w, (callFunc f args).run PR w = .ok (.enter f args) w) ∧ fn.body = some (q ()).code ∧ fn.results.toList = rs ∧ fn.ntmps = n
  ord : (q ()).ok = true

theorem FnOk.of {f : Nat} {q : Unit → Q} {rs : List ResultVar} {n : Nat} (fn : Func) (h1 : Go.Proofs.Try.prog.funcs[f]? = some fn)
    (h2 : ∀ args w, (callFunc f args).run Go.Proofs.Try.prog w = .ok (.enter f args) w) (h3 : fn.body = some (q ()).code) (h4 : fn.results.toList = rs) (h5 : fn.ntmps = n) (h6 : (q ()).ok = true) : FnOk f q rs n :=
  ⟨⟨fn, by rw [PR_eq]; exact h1, by rw [PR_eq]; exact h2, h3, h4, h5⟩, h6⟩

/-- **A function's contract**, by the executor. -/
theorem FnOk.specU {f : Nat} {q : Unit → Q} {rs : List ResultVar} {n : Nat} (h : FnOk f q rs n) (fuel : Nat) (ps : List AV) {args : Array Value} {M : Mem} {L : Nat → Bool} {Post : Nat → Mem → Value → Prop}
    (ha : AV.vals ps = args) (hps : (AV.groundL ps && decide (ps.length ≤ n)) = true)
    (hr : ∀ (c : Ct) (K : S → AV → Prop), KOk c M L Post K → run rs f c K fuel [.code q] (entry ps n M)) : SpecU f args M L Post := by
  obtain ⟨fn, h1, h2, h3, h4, h5⟩ := h.fn
  simp only [Bool.and_eq_true, decide_eq_true_eq] at hps
  subst h5
  subst ha
  exact SpecU.of_run fuel h1 h2 h3 h4 h.ord hps.1 hps.2 hr

theorem FnOk.spec {f : Nat} {q : Unit → Q} {rs : List ResultVar} {n : Nat} (h : FnOk f q rs n) (fuel : Nat) (ps : List AV) {args : Array Value} {M : Mem} {Post : Nat → Mem → Value → Prop}
    (ha : AV.vals ps = args) (hps : (AV.groundL ps && decide (ps.length ≤ n)) = true)
    (hr : ∀ (c : Ct) (K : S → AV → Prop), KOk c M noL Post K → run rs f c K fuel [.code q] (entry ps n M)) : Spec f args M Post := h.specU fuel ps ha hps hr

theorem FnOk.pure {f : Nat} {q : Unit → Q} {rs : List ResultVar} {n : Nat} (h : FnOk f q rs n) (fuel : Nat) (ps : List AV) {args : Array Value} {M : Mem} {v : Value}
    (ha : AV.vals ps = args) (hps : (AV.groundL ps && decide (ps.length ≤ n)) = true)
    (hr : ∀ (c : Ct) (K : S → AV → Prop), KOk c M noL (fun _ M' v' => M' = M ∧ v' = v) K → run rs f c K fuel [.code q] (entry ps n M)) : Pure1 f args M v := h.specU fuel ps ha hps hr

/-- Going on from a place in the code by the executor. -/
theorem FnOk.go {f : Nat} {q : Unit → Q} {rs : List ResultVar} {n : Nat} (h : FnOk f q rs n) (fuel : Nat) {c : Ct} {K : S → AV → Prop} {stk : List It} {s : S}
    (ho : stk.all itOk = true) (hr : run rs f c K fuel stk s) : OKS f c K stk s := by
  obtain ⟨fn, h1, _, _, h4, _⟩ := h.fn
  exact run_sound h1 h4 fuel stk s ho hr

/-- A region's operations. -/
def opsOf (id : Nat) : Code → Option (List Oper)
  | .region i ops _ => if i = id then some ops.toList else none
  | .seq a b => match opsOf id a with | some l => some l | none => opsOf id b
  | .cond _ a b => match opsOf id a with | some l => some l | none => opsOf id b
  | .block _ b => opsOf id b
  | .loop b => opsOf id b
  | _ => none
def opsIn (id : Nat) (fn : Func) : List Oper := ((opsOf id ((fn.body).getD .skip))).getD []

/-! ### Loops -/

/-- The temporaries that a piece of code sets. -/
def setsO (ops : List Oper) : List Nat := ops.filterMap (·.dst)
def setsQ : Q → List Nat
  | .region _ ops _ _ _ _ => setsO (ops ())
  | .seq a b => setsQ (a ()) ++ setsQ (b ())
  | .cond _ a b => setsQ (a ()) ++ setsQ (b ())
  | .block _ b => setsQ (b ())
  | .loop b => setsQ (b ())
  | .stop q => setsQ (q ())
  | _ => []

def havoc : List Nat → S → S
  | [], s => s
  | t :: l, s => havoc l { s with tmps := s.tmps.set t .any }

def setT : List (Nat × AV) → S → S
  | [], s => s
  | (t, x) :: l, s => setT l { s with tmps := s.tmps.set t x }

def setO : List (Nat × Ob) → S → S
  | [], s => s
  | (i, o) :: l, s => setO l (s.setOb i o)

/-- The states at a loop's head: what the loop sets is unknown, but for some temporaries; some local variables; the memory. -/
def headS (q : Unit → Q) (s : S) (ts : List (Nat × AV)) (os : List (Nat × Ob)) (M : Mem) : S := (setO os (setT ts (havoc (setsQ (q ())) s))).withM M

theorem OKS.loopH {f : Nat} {c : Ct} {K : S → AV → Prop} {q : Unit → Q} {r : List It} {s : S} {ι : Type} (Inv : ι → Prop) (ts : ι → List (Nat × AV)) (os : ι → List (Nat × Ob)) (Mf : ι → Mem) (μ : ι → Nat) (i0 : ι) (h0 : Inv i0)
    (hle : Le s (headS q s (ts i0) (os i0) (Mf i0)))
    (h : ∀ i, Inv i → (∀ j, Inv j → μ j < μ i → ∀ s', Le s' (headS q s (ts j) (os j) (Mf j)) → OKS f c K (.inLoop q :: r) s') → OKS f c K (.code q :: .inLoop q :: r) (headS q s (ts i) (os i) (Mf i))) :
    OKS f c K (.code (fun _ => .loop q) :: r) s :=
  OKS.loop (ι := { i : ι // Inv i }) (fun i => headS q s (ts i.1) (os i.1) (Mf i.1)) (fun i => μ i.1) ⟨i0, h0⟩ hle fun i hi => h i.1 i.2 fun j hj hlt _ hle' => OKS.weaken (hi ⟨j, hj⟩ hlt) hle'

/-- The same, with the way out told once. -/
theorem OKS.loopX {f : Nat} {c : Ct} {K : S → AV → Prop} {q q1 : Unit → Q} {id : Nat} {r : List It} {s : S} {ι κ : Type} (Inv : ι → Prop) (ts : ι → List (Nat × AV)) (os : ι → List (Nat × Ob)) (Mf : ι → Mem) (μ : ι → Nat) (i0 : ι) (h0 : Inv i0)
    (hle : Le s (headS q s (ts i0) (os i0) (Mf i0))) (InvX : κ → Prop) (tsX : κ → List (Nat × AV)) (osX : κ → List (Nat × Ob)) (MX : κ → Mem)
    (hx : ∀ k, InvX k → OKS f c K (.code q1 :: r) (headS q s (tsX k) (osX k) (MX k)))
    (h : ∀ i, Inv i → (∀ j, Inv j → μ j < μ i → ∀ s', Le s' (headS q s (ts j) (os j) (Mf j)) → OKS f c K (.inLoop q :: .inBlock id :: .code (fun _ => .stop q1) :: r) s') →
      (∀ k, InvX k → ∀ s', Le s' (headS q s (tsX k) (osX k) (MX k)) → OKS f c K (.code q1 :: r) s') → OKS f c K (.code q :: .inLoop q :: .inBlock id :: .code (fun _ => .stop q1) :: r) (headS q s (ts i) (os i) (Mf i))) :
    OKS f c K (.code (fun _ => .loop q) :: .inBlock id :: .code q1 :: r) s :=
  OKS.congr (stk' := .code (fun _ => .loop q) :: .inBlock id :: .code (fun _ => .stop q1) :: r) rfl
    (OKS.loopH Inv ts os Mf μ i0 h0 hle fun i hi ih => h i hi ih fun k hk _ hle' => OKS.weaken (hx k hk) hle')

/-- Two ways that come together. -/
theorem OKS.cut {f : Nat} {c : Ct} {K : S → AV → Prop} {q0 q1 : Unit → Q} {r : List It} {s : S} {κ : Type} (InvX : κ → Prop) (tsX : κ → List (Nat × AV)) (osX : κ → List (Nat × Ob)) (MX : κ → Mem)
    (hx : ∀ k, InvX k → OKS f c K (.code q1 :: r) (headS q0 s (tsX k) (osX k) (MX k)))
    (h : (∀ k, InvX k → ∀ s', Le s' (headS q0 s (tsX k) (osX k) (MX k)) → OKS f c K (.code q1 :: r) s') → OKS f c K (.code q0 :: .code (fun _ => .stop q1) :: r) s) : OKS f c K (.code q0 :: .code q1 :: r) s :=
  OKS.congr (stk' := .code q0 :: .code (fun _ => .stop q1) :: r) rfl (h fun k hk _ hle' => OKS.weaken (hx k hk) hle')

end Go.SX
