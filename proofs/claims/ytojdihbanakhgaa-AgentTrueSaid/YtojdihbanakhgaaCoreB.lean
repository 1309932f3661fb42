/- The executor: it runs a function's code over an abstract state, and stops where it must ask. Over the program whose types SxTy tells. -/
import Derived.Test.YtojdihbanakhgaaSxTy
import Derived.Handy
import Derived.Laws.OwnMore
import Derived.Laws.BitsLemmas
import Derived.Laws.Bits64
namespace Go.SX

/-- The values of a list of abstract values that bear nothing of the local variables. -/
def AV.vals (l : List AV) : Array Value := (AV.denL (fun _ => 0) l).toArray
def AV.groundL (l : List AV) : Bool := AV.sureL l && AV.wfL (fun _ => false) l

/-! ### Where it stops -/

section
variable (c : Ct)

/-- A test that is not decided. -/
inductive BrS (b : Unit → Bool) (p q : Prop) : Prop
  | mk : (b () = true → p) → (b () = false → q) → BrS b p q

/-- Put off. -/
inductive Lz (p : Unit → Prop) : Prop
  | mk : p () → Lz p

/-- A number that may have to be wrapped. -/
inductive ArS (k : IntKind) (e : Unit → Int) (p : (Unit → Int) → Prop) : Prop
  | mk (n : Int) : k.wrap (e ()) = n → p (fun _ => n) → ArS k e p

/-- A division. -/
inductive DivS (op : BinOp) (k : IntKind) (a b : Unit → Int) (p : (Unit → Int) → Prop) : Prop
  | quo (n : Int) : op = .quo → b () ≠ 0 → k.wrap ((a ()).tdiv (b ())) = n → p (fun _ => n) → DivS op k a b p
  | rem (n : Int) : op = .rem → b () ≠ 0 → (a ()).tmod (b ()) = n → p (fun _ => n) → DivS op k a b p

def bitF (op : BinOp) (k : IntKind) (x y : Int) : Option Int :=
  match op with
  | .and => some (k.wrap (BitVec.ofInt k.bits x &&& BitVec.ofInt k.bits y).toNat)
  | .or => some (k.wrap (BitVec.ofInt k.bits x ||| BitVec.ofInt k.bits y).toNat)
  | .xor => some (k.wrap (BitVec.ofInt k.bits x ^^^ BitVec.ofInt k.bits y).toNat)
  | .andNot => some (k.wrap (BitVec.ofInt k.bits x &&& ~~~ BitVec.ofInt k.bits y).toNat)
  | _ => none

/-- Bits. -/
inductive BitS (op : BinOp) (k : IntKind) (a b : Unit → Int) (p : (Unit → Int) → Prop) : Prop
  | mk (n : Int) : bitF op k (a ()) (b ()) = some n → p (fun _ => n) → BitS op k a b p

/-- A shift. -/
inductive ShS (op : BinOp) (k : IntKind) (a b : Unit → Int) (p : (Unit → Int) → Prop) : Prop
  | shl (n : Int) : op = .shl → 0 ≤ b () → k.wrap (a () * 2 ^ (min (b ()).toNat k.bits)) = n → p (fun _ => n) → ShS op k a b p
  | shr (n : Int) : op = .shr → 0 ≤ b () → (a ()).fdiv (2 ^ (min (b ()).toNat k.bits)) = n → p (fun _ => n) → ShS op k a b p

/-- One cell of memory. -/
inductive LoadS (b o : Unit → Nat) (M : Mem) (p : AV → Prop) : Prop
  | mk (r : AV) : r.ground = true → M.cell (b ()) (o ()) = some r.val → p r → LoadS b o M p

def CellsAt (M : Mem) (b o : Nat) : List Value → Prop
  | [] => True
  | v :: l => M.cell b o = some v ∧ CellsAt M b (o + 1) l

/-- A struct in memory. -/
inductive LoadsS (n : Nat) (b o : Unit → Nat) (M : Mem) (p : AV → Prop) : Prop
  | mk (l : List AV) : l.length = n → AV.groundL l = true → CellsAt M (b ()) (o ()) (AV.denL (fun _ => 0) l) → p (.agg l) → LoadsS n b o M p

/-- An element's place. -/
inductive IdxS (a : Unit → Option Addr) (n : Unit → Nat) (i : Unit → Int) (sz : Nat) (p : AV → Prop) : Prop
  | mk (b o j : Nat) : a () = some ⟨b, o, none⟩ → i () = (j : Int) → j < n () → p (.el (fun _ => b) (fun _ => o + j * sz)) → IdxS a n i sz p

/-- A place in an array of the function's own: which one? -/
inductive IdxA (n : Nat) (i : Unit → Int) (p : Nat → Prop) : Prop
  | mk (j : Nat) : i () = (j : Int) → j < n → p j → IdxA n i p

/-- A part of a slice: from l to h, up to m. -/
inductive SliceS (sz : Nat) (a : Unit → Option Addr) (n c : Unit → Nat) (lo hi mx : Option (Unit → Int)) (p : AV → Prop) : Prop
  | mk (l h m : Nat) : (lo.map (· ())).getD 0 = (l : Int) → (hi.map (· ())).getD (n () : Int) = (h : Int) → (mx.map (· ())).getD (c () : Int) = (m : Int) → (mx.isSome = true → hi.isSome = true) → l ≤ h → h ≤ m → m ≤ c () →
      p (.slice (fun _ => if m = l then a () else (a ()).map (·.add (l * sz))) (fun _ => h - l) (fun _ => m - l)) → SliceS sz a n c lo hi mx p

/-- A byte of a string. -/
inductive StrS (x : Unit → Value) (i : Unit → Int) (p : AV → Prop) : Prop
  | mk (s : ByteArray) (j : Nat) (n : UInt8) : x () = .string s → i () = (j : Int) → s[j]? = some n → p (.sym .u8 fun _ => (n.toNat : Int)) → StrS x i p

/-- A new row. -/
inductive NewS (i : NewI) (M : Mem) (p : Mem → AV → Prop) : Prop
  | mk : i.side () → (∀ b M', M b = none → c.B0 ≤ b → M' = M.set b i.frag → p M' (i.r b)) → NewS i M p

/-- A store into memory. -/
inductive StoreS (b o : Unit → Nat) (l : List AV) (M : Mem) (p : Mem → Prop) : Prop
  | mk (M' : Mem) : (∀ w, M.on w → c.B0 ≤ w.heap.size → ∃ w', (storeCells ⟨b (), o (), none⟩ (AV.denL (fun _ => 0) l)).run PR w = .ok () w' ∧ Grow c true M w M' w') → p M' → StoreS b o l M p

/-- What a call that asks memory M comes to. -/
def EffG (up : Bool) (M : Mem) (p : Mem → AV → Prop) (res : World → Result Next) : Prop :=
  ∀ w, M.on w → c.B0 ≤ w.heap.size → ResV PR (fun v w' => ∃ M' r, v = r.val ∧ r.ground = true ∧ Grow c up M w M' w' ∧ p M' r) (res w)

/-- A call. -/
inductive CallS (up : Bool) (f : Nat) (args : List AV) (M : Mem) (p : Mem → AV → Prop) : Prop
  | mk : EffG c up M p (fun w => (callFunc f (AV.vals args)).run PR w) → CallS up f args M p

/-- append. -/
inductive AppS (up : Bool) (ts : List Nat) (args : List AV) (M : Mem) (p : Mem → AV → Prop) : Prop
  | mk : EffG c up M p (fun w => (builtin .append ts.toArray 0 #[] (AV.vals args)).run PR w) → AppS up ts args M p

/-- Another builtin. -/
inductive BuiS (up : Bool) (b : Builtin) (ts : List Nat) (args : List AV) (M : Mem) (p : Mem → AV → Prop) : Prop
  | mk : EffG c up M p (fun w => (builtin b ts.toArray 0 #[] (AV.vals args)).run PR w) → BuiS up b ts args M p

end

/-! ### One operation -/

def vF (op : Op) (ev : Operand → AV) (ob : Nat → Ob) : Option AV := valF TB op ev ob

def optI (ev : Operand → AV) : Option Operand → Option (Option (Unit → Int))
  | none => some none
  | some x =>
    match (ev x).asI with
    | some (_, n) => some (some n)
    | none => none

def sliceOf : AV → Option ((Unit → Option Addr) × (Unit → Nat) × (Unit → Nat))
  | .slice a n c => some (a, n, c)
  | .nils => some (fun _ => none, fun _ => 0, fun _ => 0)
  | _ => none

def minF (mx : Bool) (a b : Int) : Int := if mx then (if a < b then b else a) else (if b < a then b else a)

/-- What must be asked of an operation that only reads. -/
def rAsk (op : Op) (ev : Operand → AV) (M : Mem) (p : AV → Prop) : Prop :=
  match op with
  | .load t x =>
    match ev x, TB.ty t with
    | .el b o, some i => if i.k.agg then LoadsS i.size b o M p else LoadS b o M p
    | _, _ => False
  | .indexAddr t x i =>
    match (TB.ty t).map TI.k, (ev i).asI with
    | some (.slice e), some (_, n) =>
      match sliceOf (ev x), TB.ty e with
      | some (a, l, _), some ti => IdxS a l n ti.size p
      | _, _ => False
    | some (.arr m e), some (_, n) =>
      match ev x, TB.ty e with
      | .ptr id off, some ti => IdxA m n fun j => p (.ptr id (off + j * ti.size))
      | _, _ => False
    | _, _ => False
  | .binOp op _ x y _ =>
    match (ev x).asI, (ev y).asI with
    | some (k, a), some (k', b) =>
      match op with
      | .add => if k = k' then ArS k (fun _ => a () + b ()) fun n => p (.sym k n) else False
      | .sub => if k = k' then ArS k (fun _ => a () - b ()) fun n => p (.sym k n) else False
      | .mul => if k = k' then ArS k (fun _ => a () * b ()) fun n => p (.sym k n) else False
      | .quo | .rem => if k = k' then DivS op k a b fun n => p (.sym k n) else False
      | .and | .or | .xor | .andNot => if k = k' then BitS op k a b fun n => p (.sym k n) else False
      | .shl | .shr => ShS op k a b fun n => p (.sym k n)
      | _ => False
    | _, _ => False
  | .unOp .neg _ x =>
    match (ev x).asI with
    | some (k, a) => ArS k (fun _ => 0 - a ()) fun n => p (.sym k n)
    | none => False
  | .convert src dst x =>
    match (ev x).asI, (TB.ty src).isSome, (TB.ty dst).map TI.k with
    | some (_, a), true, some (.int k) => ArS k a fun n => p (.sym k n)
    | _, _, _ => False
  | .slice t x lo hi mx =>
    match (TB.ty t).map TI.k, sliceOf (ev x), optI ev lo, optI ev hi, optI ev mx with
    | some (.slice e), some (a, n, c), some l, some h, some m =>
      match TB.ty e with
      | some ti => SliceS ti.size a n c l h m p
      | none => False
    | _, _, _, _, _ => False
  | .call { callee := .builtin .min, args, .. } =>
    match args.toList with
    | [x, y] =>
      match (ev x).asI, (ev y).asI with
      | some (k, a), some (_, b) => p (.sym k fun _ => minF false (a ()) (b ()))
      | _, _ => False
    | _ => False
  | .call { callee := .builtin .max, args, .. } =>
    match args.toList with
    | [x, y] =>
      match (ev x).asI, (ev y).asI with
      | some (k, a), some (_, b) => p (.sym k fun _ => minF true (a ()) (b ()))
      | _, _ => False
    | _ => False
  | .index t x i =>
    match (TB.ty t).map TI.k, ev x, (ev i).asI with
    | some .str, .v s, some (_, n) => StrS s n p
    | some (.arr m e), .agg l, some (_, n) =>
      match TB.ty e with
      | some ti => if ti.k.agg then IdxA m n fun j => p (.agg ((l.drop (j * ti.size)).take ti.size)) else False
      | none => False
    | _, _, _ => False
  | _ => False

/-- An operation that may change what is known of memory. -/
def eAsk (c : Ct) (up : Bool) (op : Op) (ev : Operand → AV) (M : Mem) (p : Mem → AV → Prop) : Prop :=
  match op with
  | .call { callee := .value f, args, .. } =>
    match ev f with
    | .clo (.func g) fst cap =>
      let l := fst ++ args.toList.map ev ++ cap
      if AV.groundL l then CallS c up g l M p else False
    | _ => False
  | .call { callee := .builtin b, args, argTypes } =>
    let l := args.toList.map ev
    if AV.groundL l then
      match b with
      | .append => AppS c up argTypes.toList l M p
      | .clear => BuiS c up .clear argTypes.toList l M p
      | _ => False
    else False
  | _ => False

def stepK (c : Ct) (g lz det upd : Bool) (av : List Nat) (kd : Kd) (dst : Option Nat) (op : Op) (s : S) (k : S → Prop) : Prop :=
  match kd with
  | .r =>
    match vF op s.eval (s.drop av).ob with
    | some (.sb b) => if g && !det then (if lz then BrS b (Lz fun _ => k (s.put dst .tt)) (Lz fun _ => k (s.put dst .ff)) else BrS b (k (s.put dst .tt)) (k (s.put dst .ff))) else k (s.put dst (.sb b))
    | some r =>
      match av with
      | [] => k (s.put dst r)
      | _ => if r.wf (s.drop av).live then k (s.put dst r) else False
    | none =>
      if det then False else
      match av with
      | [] => rAsk op s.eval s.M fun r => k (s.put dst r)
      | _ => rAsk op s.eval s.M fun r => if r.wf (s.drop av).live then k (s.put dst r) else False
  | .e => eAsk c upd op s.eval s.M fun M r => k ((s.withM M).put dst r)
  | .n =>
    match newF TB op s.eval with
    | some i => NewS c i s.M fun M r => k ((s.withM M).put dst r)
    | none => False
  | .f =>
    match dst, allocF TB op s.eval with
    | some d, some (T, l) =>
      match s.ob d with
      | .none => if d < s.objs.length then k ((s.setOb d (.cells T l)).put (some d) (.ptr d 0)) else False
      | _ => False
    | _, _ => False
  | .w =>
    match dst, op with
    | none, .store t (.tmp a) x =>
      match s.get a with
      | .ptr _ _ =>
        match storeF TB op s.eval s.ob with
        | some (i, T, l') => if av.isEmpty || av.contains i then k (s.setOb i (.cells T l')) else False
        | none => False
      | .el b q =>
        match (s.eval x).cellsA, TB.ty t with
        | some l, some ti => if av.isEmpty = true ∧ l.length = ti.size ∧ AV.groundL l = true then StoreS c b q l s.M fun M => k (s.withM M) else False
        | _, _ => False
      | _ => False
    | _, _ => False
  | .bad => False

def opStep (c : Ct) (g lz : Bool) (m : Md) (o : Oper) (s : S) (k : S → Prop) : Prop := stepK c g lz m.det m.upd m.avoid (kd o) o.dst o.op s k

def guardL (ops : List Oper) (o : Oper) (s : S) : Option Bool :=
  match o.guard with
  | none => some true
  | some (j, want) =>
    match (ops[j]?).bind (·.dst) with
    | some t =>
      match s.get t with
      | .tt => some want
      | .ff => some (!want)
      | .v x => match x () with
        | .bool _ => none
        | _ => some false
      | _ => none
    | none => none

def runOps (c : Ct) (ops : Unit → List Oper) (gs : List Nat) (mds : List (Nat × Md)) : List Nat → S → (S → Prop) → Prop
  | [], s, k => k s
  | i :: l, s, k =>
    match (ops ())[i]? with
    | none => False
    | some o =>
      match guardL (ops ()) o s with
      | some true => opStep c (gs.contains i) (Nat.blt 6 gs.length) (mdAt mds i) o s fun s => runOps c ops gs mds l s k
      | some false => runOps c ops gs mds l (s.put o.dst uav) k
      | none => False

/-! ### The code -/

/-- Code whose parts are kept folded: a region has its order with it. -/
inductive Q where
  | skip
  | ret
  | exit (id : Nat)
  | seq (a b : Unit → Q)
  | cond (x : Operand) (a b : Unit → Q)
  | block (id : Nat) (b : Unit → Q)
  | loop (b : Unit → Q)
  | region (id : Nat) (ops : Unit → List Oper) (gs : List Nat) (draw : Bool) (ord : List Nat) (mds : List (Nat × Md))
  | stop (q : Unit → Q)

def Q.code : Q → Code
  | .skip => .skip
  | .ret => .ret
  | .exit id => .exit id
  | .seq a b => .seq (a ()).code (b ()).code
  | .cond x a b => .cond x (a ()).code (b ()).code
  | .block id b => .block id (b ()).code
  | .loop b => .loop (b ()).code
  | .region id ops _ draw _ _ => .region id (ops ()).toArray draw
  | .stop q => (q ()).code

inductive It where
  | code (q : Unit → Q)
  | inBlock (id : Nat)
  | inLoop (q : Unit → Q)

def It.item : It → Item
  | .code q => .code (q ()).code
  | .inBlock id => .inBlock id
  | .inLoop q => .inLoop (q ()).code

def exitAt (id : Nat) : List It → Option (List It)
  | .inBlock i :: k => if i == id then some k else exitAt id k
  | _ :: k => exitAt id k
  | [] => none

/-- What a call's run must come to. -/
def Fin (f : Nat) (cs : List Frame) (c : Ct) (K : S → AV → Prop) (m : Machine) : Prop :=
  ∃ v w' fr, (∃ ρ s r a, s.WF ∧ Gam c ρ s a w' ∧ v = r.den ρ ∧ r.sure = true ∧ K s r) ∧ Comes PR m (lone fr cs w') (.returned v) ∧ fr.fn = f ∧ fr.leaving PR w' (.returned v)

/-- From this code and this state the call comes to its end. -/
structure OKS (f : Nat) (c : Ct) (K : S → AV → Prop) (stk : List It) (s : S) : Prop where
  ok : ∀ (b : Frame) (cs : List Frame) (ρ : Nat → Nat) (a : Act) (w : World), b.fn = f → b.kind = .normal → s.WF → Gam c ρ s a w → Fin f cs c K (lone (b.at a (stk.map It.item)) cs w)

def resA (s : S) : List ResultVar → Option (List AV)
  | [] => some []
  | .tmp t :: l => (resA s l).map (s.get t :: ·)
  | .cell a t :: l =>
    match vF (.load t (.tmp a)) s.eval s.ob, resA s l with
    | some r, some k => some (r :: k)
    | _, _ => none

def resK (K : S → AV → Prop) (rs : List ResultVar) (s : S) : Prop :=
  match resA s rs with
  | some [r] => if r.sure then K s r else False
  | some l => if AV.sureL l then K s (.tup l) else False
  | none => False

def run (rs : List ResultVar) (f : Nat) (c : Ct) (K : S → AV → Prop) : Nat → List It → S → Prop
  | 0, stk, s => OKS f c K stk s
  | _, [], s => resK K rs s
  | n + 1, .inBlock _ :: r, s => run rs f c K n r s
  | _, .inLoop b :: r, s => OKS f c K (.inLoop b :: r) s
  | n + 1, .code q :: r, s =>
    match q () with
    | .skip => run rs f c K n r s
    | .seq a b => run rs f c K n (.code a :: .code b :: r) s
    | .region _ ops gs _ ord mds => runOps c ops gs mds ord s fun s => run rs f c K n r s
    | .cond x a b =>
      match s.eval x with
      | .tt => run rs f c K n (.code a :: r) s
      | .ff => run rs f c K n (.code b :: r) s
      | .sb t => BrS t (run rs f c K n (.code a :: r) s) (run rs f c K n (.code b :: r) s)
      | _ => False
    | .block id b => run rs f c K n (.code b :: .inBlock id :: r) s
    | .exit id => match exitAt id r with | some k => run rs f c K n k s | none => False
    | .loop b => OKS f c K (.code (fun _ => .loop b) :: r) s
    | .ret => resK K rs s
    | .stop q => OKS f c K (.code q :: r) s

end Go.SX

/- The executor is sound. -/
namespace Go.SX

section
variable {c : Ct} {ρ : Nat → Nat} {s : S} {a : Act} {w : World}

abbrev IB : Info := info TB

theorem eval_drop (s : S) (ids : List Nat) : (s.drop ids).eval = s.eval := by
  funext x
  cases x with
  | tmp t => simp only [S.eval, S.get, S.drop_tmps]
  | _ => rfl

theorem valF_drop {op : Op} {ids : List Nat} {r : AV} (h : valF TB op s.eval (s.drop ids).ob = some r) : valF TB op s.eval s.ob = some r := by
  cases op
  case load t y =>
    simp only [valF] at h ⊢
    split at h
    · rename_i id off he
      split at h
      · rename_i V q ti hob hti
        rw [S.drop_ob] at hob
        split at hob
        · cases hob
        · rw [hob, hti]; exact h
      · cases h
    · cases h
  case call q =>
    obtain ⟨cal, args, ats⟩ := q
    cases cal with
    | builtin b => cases b <;> exact h
    | value f => exact h
    | invoke r m => exact h
  case unOp op t y => cases op <;> exact h
  all_goals exact h

theorem Gam.evalD (h : Gam c ρ s a w) {x : Operand} {y : AV} (he : s.eval x = y) (hy : y ≠ .any) : a.eval x = y.den ρ := by
  rw [← he] at hy ⊢
  exact (h.eval x).out hy

theorem Gam.evalI (h : Gam c ρ s a w) {x : Operand} {k : IntKind} {n : Unit → Int} (he : (s.eval x).asI = some (k, n)) : a.eval x = .int k (n ()) := by
  obtain ⟨e1, e2⟩ := AV.asI_den (ρ := ρ) he
  exact ((h.eval x).out e1).trans e2

theorem sliceOf_den {x : AV} {p : (Unit → Option Addr) × (Unit → Nat) × (Unit → Nat)} (h : sliceOf x = some p) : x ≠ .any ∧ x.den ρ = .slice (p.1 ()) (p.2.1 ()) (p.2.2 ()) := by
  cases x <;> simp [sliceOf] at h <;> subst h <;> simp [AV.den]

theorem optI_spec (h : Gam c ρ s a w) {x : Option Operand} {r : Option (Unit → Int)} (hx : optI s.eval x = some r) : ∃ k, x.map a.eval = r.map (fun n => Value.int k (n ())) := by
  cases x with
  | none => simp [optI] at hx; subst hx; exact ⟨.i64, rfl⟩
  | some x =>
    simp only [optI] at hx
    split at hx
    · rename_i k n hn
      cases hx
      exact ⟨k, by simp [h.evalI hn]⟩
    · cases hx

theorem CellsAt.get {M : Mem} : ∀ {l : List Value} {b o j : Nat} {v : Value}, CellsAt M b o l → l[j]? = some v → M.cell b (o + j) = some v
  | [], _, _, _, _, _, h => by simp at h
  | x :: l, b, o, 0, v, h, hv => by simp at hv; subst hv; exact h.1
  | x :: l, b, o, j + 1, v, h, hv => by
    have := CellsAt.get (j := j) h.2 (by simpa using hv)
    rwa [Nat.add_assoc, Nat.add_comm 1 j] at this

theorem bitF_run {op : BinOp} {k : IntKind} {x y n : Int} (h : bitF op k x y = some n) {t : Nat} : (binOp op t (.int k x) (.int k y)).run PR w = .ok (.int k n) w := by
  cases op <;> simp only [bitF, reduceCtorEq] at h <;> cases h <;> simp [binOp, Op.intBits]

theorem sliceBound_run (k : IntKind) (i y : Nat) (code : BoundsCode) (h : i ≤ y) : (Instr.sliceBound (.int k (i : Int)) y code).run PR w = .ok i w := by
  have := run_sliceBound (P := PR) w k (i : Int) y code (by omega) (by omega)
  simpa using this

theorem rAsk_sound (hg : Gam c ρ s a w) {o : Oper} {r : AV} {q : AV → Prop} (hq : q = fun r' => r' = r) (h : rAsk o.op s.eval s.M q) : ∃ v, (execOp a.eval o).run PR w = .ok (.value v) w ∧ Den ρ r v := by
  subst hq
  unfold rAsk at h
  unfold execOp
  split at h
  -- load
  · rename_i t x ho
    rw [ho]
    split at h
    · rename_i b q i he hti
      have hi := tb_ok.ty t i hti
      have ex := hg.evalD he (by simp)
      split at h
      · rename_i hagg
        obtain ⟨l, h1, h2, h3, h4⟩ := h
        subst h4
        simp only [AV.groundL, Bool.and_eq_true] at h2
        have hd : AV.denL ρ l = AV.denL (fun _ => 0) l := AV.denL_congr (p := fun _ => false) (fun i hi => by cases hi) l h2.2
        have := run_loadVar_agg (w := w) hi hagg (b := b ()) (o := q ()) (l := AV.denL (fun _ => 0) l) (by rw [denL_length]; exact h1) (fun j v hv => Mem.cell_on hg.mem (h3.get hv))
        exact ⟨.agg (AV.denL (fun _ => 0) l).toArray, by simp [Instr.loadAt, ex, AV.den, Instr.sureAddr, this], .inr (by rw [AV.den, hd])⟩
      · rename_i hagg
        obtain ⟨r', h1, h2, h3⟩ := h
        subst h3
        have := run_loadVar_cell (w := w) hi (by simpa using hagg) (Mem.cell_on hg.mem h2)
        exact ⟨r'.val, by simp [Instr.loadAt, ex, AV.den, Instr.sureAddr, this], Den.of_ground h1 ρ⟩
    · exact h.elim
  -- indexAddr
  · rename_i t x i ho
    rw [ho]
    split at h
    · rename_i e kk n hk hi
      obtain ⟨ti, hti, hki, hty⟩ := typeInfo_map tb_ok hk
      have hd := tk_slice (hty.kind.trans hki)
      have ei := hg.evalI hi
      split at h
      · rename_i p l q te hs hte
        obtain ⟨e1, e2⟩ := sliceOf_den (ρ := ρ) hs
        have ex := hg.evalD rfl e1
        rw [e2] at ex
        have hsz := (tb_ok.ty e te hte).run_sizeOf (w := w)
        obtain ⟨b, o', j, h1, h2, h3, h4⟩ := h
        subst h4
        simp only at ex
        rw [h1] at ex
        refine ⟨.pointer (some ⟨b, o' + j * te.size, none⟩), ?_, .inr rfl⟩
        have hj : (0 : Int) ≤ j ∧ (j : Int) < (l () : Int) := ⟨by omega, by omega⟩
        simp [Instr.indexAt, ex, ei, h2, run_underlying hd, asIntOf, hsz, addr_add, h3]
      · exact h.elim
    · rename_i m e kk n hk hi
      obtain ⟨ti, hti, hki, hty⟩ := typeInfo_map tb_ok hk
      have hd := tk_arr (hty.kind.trans hki)
      have ei := hg.evalI hi
      split at h
      · rename_i id off te hx hte
        have ex := hg.evalD hx (by simp)
        have hsz := (tb_ok.ty e te hte).run_sizeOf (w := w)
        obtain ⟨j, h1, h2, h3⟩ := h
        subst h3
        refine ⟨.pointer (some ⟨ρ id, off + j * te.size, none⟩), ?_, .inr rfl⟩
        simp [Instr.indexAt, ex, ei, h1, h2, run_underlying hd, asIntOf, hsz, addr_add, AV.den, Instr.sureAddr]
      · exact h.elim
    · exact h.elim
  -- binOp
  · rename_i op t x y u ho
    rw [ho]
    split at h
    · rename_i k a' k' b' hx hy
      have ex := hg.evalI hx
      have ey := hg.evalI hy
      have fin : ∀ {n : Int}, (binOp op t (.int k (a' ())) (.int k' (b' ()))).run PR w = .ok (.int k n) w → r = .sym k (fun _ => n) → ∃ v, (do let v ← (do eqGuard op t x y (a.eval x) (a.eval y); binOp op t (a.eval x) (a.eval y)); pure (Next.value v) : Sem Next).run PR w = .ok (.value v) w ∧ Den ρ r v := fun {n} h1 h2 => by
        subst h2
        exact ⟨.int k n, by simp [ex, ey, eqGuard_int, h1], .inr rfl⟩
      split at h
      · split at h
        · rename_i e; subst e; obtain ⟨n, h1, h2⟩ := h; exact fin (by simp [binOp, Op.intArith, h1]) h2.symm
        · exact h.elim
      · split at h
        · rename_i e; subst e; obtain ⟨n, h1, h2⟩ := h; exact fin (by simp [binOp, Op.intArith, h1]) h2.symm
        · exact h.elim
      · split at h
        · rename_i e; subst e; obtain ⟨n, h1, h2⟩ := h; exact fin (by simp [binOp, Op.intArith, h1]) h2.symm
        · exact h.elim
      · split at h
        · rename_i e; subst e
          rcases h with ⟨n, h0, h1, h2, h3⟩ | ⟨n, h0, h1, h2, h3⟩
          · exact fin (by simp [binOp, Op.intDiv, h1, h2]) h3.symm
          · cases h0
        · exact h.elim
      · split at h
        · rename_i e; subst e
          rcases h with ⟨n, h0, h1, h2, h3⟩ | ⟨n, h0, h1, h2, h3⟩
          · cases h0
          · exact fin (by simp [binOp, Op.intDiv, h1, h2]) h3.symm
        · exact h.elim
      iterate 4
        (· split at h
           · rename_i e; subst e; obtain ⟨n, h1, h2⟩ := h; exact fin (bitF_run h1) h2.symm
           · exact h.elim)
      · rcases h with ⟨n, h0, h1, h2, h3⟩ | ⟨n, h0, h1, h2, h3⟩
        · exact fin (by simp [binOp, Op.shift, Int.not_lt.2 h1, h2]) h3.symm
        · cases h0
      · rcases h with ⟨n, h0, h1, h2, h3⟩ | ⟨n, h0, h1, h2, h3⟩
        · cases h0
        · exact fin (by simp [binOp, Op.shift, Int.not_lt.2 h1, h2]) h3.symm
      · exact h.elim
    · exact h.elim
  -- neg
  · rename_i t x ho
    rw [ho]
    split at h
    · rename_i k a' hx
      obtain ⟨n, h1, h2⟩ := h
      subst h2
      have ex := hg.evalI hx
      exact ⟨.int k n, by simp [Op.unary, ex, Op.intArith]; simpa using h1, .inr rfl⟩
    · exact h.elim
  -- convert
  · rename_i src dst x ho
    rw [ho]
    split at h
    · rename_i k0 a' k hx hsrc hk
      obtain ⟨n, h1, h2⟩ := h
      subst h2
      have ex := hg.evalI hx
      obtain ⟨ti, hti, hki, hty⟩ := typeInfo_map tb_ok hk
      have hd := tk_int (hty.kind.trans hki)
      obtain ⟨si, hsi⟩ := Option.isSome_iff_exists.1 hsrc
      obtain ⟨sd, hsd, _⟩ := (tb_ok.ty src si hsi).und'
      exact ⟨.int k n, by simp [convert, run_underlying hsd, run_underlying hd, ex, Conv.intToInt, h1], .inr rfl⟩
    · exact h.elim
  -- slice
  · rename_i t x lo hi mx ho
    rw [ho]
    split at h
    · rename_i e p l q lo' hi' mx' hk hs hlo hhi hmx
      obtain ⟨ti, hti, hki, hty⟩ := typeInfo_map tb_ok hk
      have hd := tk_slice (hty.kind.trans hki)
      obtain ⟨e1, e2⟩ := sliceOf_den (ρ := ρ) hs
      have ex := (hg.evalD rfl e1).trans e2
      obtain ⟨k1, el⟩ := optI_spec hg hlo
      obtain ⟨k2, eh⟩ := optI_spec hg hhi
      obtain ⟨k3, em⟩ := optI_spec hg hmx
      split at h
      · rename_i te hte
        have hsz := (tb_ok.ty e te hte).run_sizeOf (w := w)
        obtain ⟨L, H, M', h1, h2, h3, h4, h5, h6, h7, h8⟩ := h
        subst h8
        refine ⟨_, ?_, .inr rfl⟩
        have hb : (Instr.sliceBounds true (l ()) (q ()) (lo'.map fun n => .int k1 (n ())) (hi'.map fun n => .int k2 (n ())) (mx'.map fun n => .int k3 (n ()))).run PR w = .ok (L, H, M') w := by
          unfold Instr.sliceBounds
          cases mx' with
          | none =>
            simp at h3
            have h3' : q () = M' := by omega
            subst h3'
            cases hi' with
            | none =>
              simp at h2
              have h2' : l () = H := by omega
              subst h2'
              cases lo' with
              | none => simp at h1; have : L = 0 := by omega
                        subst this; simp
              | some n => simp at h1; simp [h1, sliceBound_run _ _ _ _ h5]
            | some n =>
              simp at h2
              cases lo' with
              | none => simp at h1; have : L = 0 := by omega
                        subst this; simp [h2, sliceBound_run _ _ _ _ h6]
              | some n' => simp at h1; simp [h1, h2, sliceBound_run _ _ _ _ h5, sliceBound_run _ _ _ _ h6]
          | some m =>
            simp at h3
            cases hi' with
            | none => exact absurd (h4 rfl) (by simp)
            | some n =>
              simp at h2
              cases lo' with
              | none => simp at h1; have : L = 0 := by omega
                        subst this; simp [h2, h3, sliceBound_run _ _ _ _ h6, sliceBound_run _ _ _ _ h7]
              | some n' => simp at h1; simp [h1, h2, h3, sliceBound_run _ _ _ _ h5, sliceBound_run _ _ _ _ h6, sliceBound_run _ _ _ _ h7]
        simp [Instr.sliceAt, run_underlying hd, Instr.slice, ex, el, eh, em, hb, hsz, AV.den]
      · exact h.elim
    · exact h.elim
  -- min
  · rename_i args ats ho
    rw [ho]
    split at h
    · rename_i x y hxy
      have hargs : args = #[x, y] := by apply Array.ext'; simpa using hxy
      subst hargs
      split at h
      · rename_i k a' k' b' hx hy
        subst h
        have ex := hg.evalI hx
        have ey := hg.evalI hy
        refine ⟨.int k (minF false (a' ()) (b' ())), ?_, .inr rfl⟩
        simp [resolve, invoke, builtin, Builtin.min_, Builtin.min2, ex, ey, minF]
      · exact h.elim
    · exact h.elim
  -- max
  · rename_i args ats ho
    rw [ho]
    split at h
    · rename_i x y hxy
      have hargs : args = #[x, y] := by apply Array.ext'; simpa using hxy
      subst hargs
      split at h
      · rename_i k a' k' b' hx hy
        subst h
        have ex := hg.evalI hx
        have ey := hg.evalI hy
        refine ⟨.int k (minF true (a' ()) (b' ())), ?_, .inr rfl⟩
        simp [resolve, invoke, builtin, Builtin.max_, Builtin.max2, ex, ey, minF]
      · exact h.elim
    · exact h.elim
  · rename_i t x i ho
    rw [ho]
    split at h
    · rename_i sv k n hk hx hi
      obtain ⟨b, j, m, h1, h2, h3, h4⟩ := h
      subst h4
      obtain ⟨ti, hti, htk, hok⟩ := typeInfo_map tb_ok hk
      obtain ⟨d, hd, hdk⟩ := hok.und'
      rw [htk] at hdk
      have hd := hd.trans (tk_str hdk)
      have ex : a.eval x = .string b := by rw [hg.evalD hx (by simp)]; exact h1
      have ei := hg.evalI hi
      rw [h2] at ei
      refine ⟨_, ?_, .inr rfl⟩
      simp [Instr.index, ex, ei, asIntOf, run_underlying hd, h3, AV.den]
    · rename_i m e l k n hk hx hi
      obtain ⟨ti0, hti0, hki, hty⟩ := typeInfo_map tb_ok hk
      have hd := tk_arr (hty.kind.trans hki)
      have ei := hg.evalI hi
      have ex := hg.evalD hx (by simp)
      split at h
      · rename_i te hte
        have hye := tb_ok.ty e te hte
        have hsz := hye.run_sizeOf (w := w)
        have hag := hye.run_isAgg (w := w)
        split at h
        · rename_i hagg
          rw [hagg] at hag
          obtain ⟨j, h1, h2, h3⟩ := h
          subst h3
          rw [h1] at ei
          have hj : (0 : Int) ≤ j ∧ (j : Int) < (m : Int) := ⟨by omega, by omega⟩
          refine ⟨.agg (((AV.denL ρ l).drop (j * te.size)).take te.size).toArray, ?_, .inr (by simp [AV.den, denL_take, denL_drop])⟩
          simp [Instr.index, ex, ei, asIntOf, run_underlying hd, h2, AV.den, hsz, part, hag]
        · exact h.elim
      · exact h.elim
    · exact h.elim
  · exact h.elim

end
end Go.SX

/- The executor is sound, 2. -/
namespace Go.SX

section
variable {c : Ct} {ρ : Nat → Nat} {s : S} {a : Act} {w : World}

theorem rAsk_split {op : Op} {ev : Operand → AV} {M : Mem} {p : AV → Prop} (h : rAsk op ev M p) : ∃ r, rAsk op ev M (fun r' => r' = r) ∧ p r := by
  unfold rAsk at *
  split at h
  · split at h
    · split at h
      · rename_i e; simp only [e, if_true]; obtain ⟨l, h1, h2, h3, h4⟩ := h; exact ⟨_, ⟨l, h1, h2, h3, rfl⟩, h4⟩
      · rename_i e; simp only [e, if_false, Bool.false_eq_true]; obtain ⟨l, h1, h2, h3⟩ := h; exact ⟨_, ⟨l, h1, h2, rfl⟩, h3⟩
    · exact h.elim
  · split at h
    · split at h
      · obtain ⟨b, o, j, h1, h2, h3, h4⟩ := h; exact ⟨_, ⟨b, o, j, h1, h2, h3, rfl⟩, h4⟩
      · exact h.elim
    · split at h
      · obtain ⟨j, h1, h2, h3⟩ := h; exact ⟨_, ⟨j, h1, h2, rfl⟩, h3⟩
      · exact h.elim
    · exact h.elim
  · split at h
    · split at h
      · split at h
        · rename_i e; subst e; simp only [if_true]; obtain ⟨n, h1, h2⟩ := h; exact ⟨_, ⟨n, h1, rfl⟩, h2⟩
        · exact h.elim
      · split at h
        · rename_i e; subst e; simp only [if_true]; obtain ⟨n, h1, h2⟩ := h; exact ⟨_, ⟨n, h1, rfl⟩, h2⟩
        · exact h.elim
      · split at h
        · rename_i e; subst e; simp only [if_true]; obtain ⟨n, h1, h2⟩ := h; exact ⟨_, ⟨n, h1, rfl⟩, h2⟩
        · exact h.elim
      iterate 2
        (· split at h
           · rename_i e; subst e; simp only [if_true]
             rcases h with ⟨n, h1, h2, h3, h4⟩ | ⟨n, h1, h2, h3, h4⟩
             · exact ⟨_, .quo n h1 h2 h3 rfl, h4⟩
             · exact ⟨_, .rem n h1 h2 h3 rfl, h4⟩
           · exact h.elim)
      iterate 4
        (· split at h
           · rename_i e; subst e; simp only [if_true]; obtain ⟨n, h1, h2⟩ := h; exact ⟨_, ⟨n, h1, rfl⟩, h2⟩
           · exact h.elim)
      iterate 2
        (· rcases h with ⟨n, h1, h2, h3, h4⟩ | ⟨n, h1, h2, h3, h4⟩
           · exact ⟨_, .shl n h1 h2 h3 rfl, h4⟩
           · exact ⟨_, .shr n h1 h2 h3 rfl, h4⟩)
      · exact h.elim
    · exact h.elim
  · split at h
    · obtain ⟨n, h1, h2⟩ := h; exact ⟨_, ⟨n, h1, rfl⟩, h2⟩
    · exact h.elim
  · split at h
    · obtain ⟨n, h1, h2⟩ := h; exact ⟨_, ⟨n, h1, rfl⟩, h2⟩
    · exact h.elim
  · split at h
    · split at h
      · obtain ⟨L, H, m, h1, h2, h3, h4, h5, h6, h7, h8⟩ := h; exact ⟨_, ⟨L, H, m, h1, h2, h3, h4, h5, h6, h7, rfl⟩, h8⟩
      · exact h.elim
    · exact h.elim
  · split at h
    · split at h
      · exact ⟨_, rfl, h⟩
      · exact h.elim
    · exact h.elim
  · split at h
    · split at h
      · exact ⟨_, rfl, h⟩
      · exact h.elim
    · exact h.elim
  · split at h
    · obtain ⟨b, j, n, h1, h2, h3, h4⟩ := h; exact ⟨_, ⟨b, j, n, h1, h2, h3, rfl⟩, h4⟩
    · split at h
      · split at h
        · rename_i hagg; simp only [hagg, if_true]; obtain ⟨j, h1, h2, h3⟩ := h; exact ⟨_, ⟨j, h1, h2, rfl⟩, h3⟩
        · exact h.elim
      · exact h.elim
    · exact h.elim
  · exact h.elim

theorem rAsk_wf {op : Op} (hw : s.WF) {r : AV} (h : rAsk op s.eval s.M (fun r' => r' = r)) : r.wf s.live = true := by
  unfold rAsk at h
  split at h
  · split at h
    · split at h
      · obtain ⟨l, h1, h2, h3, rfl⟩ := h
        simp only [AV.groundL, Bool.and_eq_true] at h2
        exact AV.wfL_mono (p := fun _ => false) (fun i hi => by cases hi) l h2.2
      · obtain ⟨l, h1, h2, rfl⟩ := h; exact AV.ground_wf h1 _
    · exact h.elim
  · split at h
    · split at h
      · obtain ⟨b, o, j, h1, h2, h3, rfl⟩ := h; rfl
      · exact h.elim
    · split at h
      · rename_i id off ti he hte
        obtain ⟨j, h1, h2, rfl⟩ := h
        have h3 := congrArg (AV.wf s.live) he
        rw [S.eval_wf hw] at h3
        exact h3.symm
      · exact h.elim
    · exact h.elim
  · split at h
    · split at h
      iterate 3
        (· split at h
           · obtain ⟨n, h1, rfl⟩ := h; rfl
           · exact h.elim)
      iterate 2
        (· split at h
           · rcases h with ⟨n, h1, h2, h3, rfl⟩ | ⟨n, h1, h2, h3, rfl⟩ <;> rfl
           · exact h.elim)
      iterate 4
        (· split at h
           · obtain ⟨n, h1, rfl⟩ := h; rfl
           · exact h.elim)
      iterate 2
        (· rcases h with ⟨n, h1, h2, h3, rfl⟩ | ⟨n, h1, h2, h3, rfl⟩ <;> rfl)
      · exact h.elim
    · exact h.elim
  · split at h
    · obtain ⟨n, h1, rfl⟩ := h; rfl
    · exact h.elim
  · split at h
    · obtain ⟨n, h1, rfl⟩ := h; rfl
    · exact h.elim
  · split at h
    · split at h
      · obtain ⟨L, H, m, h1, h2, h3, h4, h5, h6, h7, rfl⟩ := h; rfl
      · exact h.elim
    · exact h.elim
  · split at h
    · split at h
      · subst h; rfl
      · exact h.elim
    · exact h.elim
  · split at h
    · split at h
      · subst h; rfl
      · exact h.elim
    · exact h.elim
  · split at h
    · obtain ⟨b, j, n, h1, h2, h3, h4⟩ := h; subst h4; rfl
    · rename_i m e l k n hk hx hi
      have hx : s.eval _ = .agg l := hx
      split at h
      · split at h
        · obtain ⟨j, h1, h2, rfl⟩ := h
          have h3 := congrArg (AV.wf s.live) hx
          rw [S.eval_wf hw] at h3
          exact wfL_take _ _ (wfL_drop _ _ h3.symm)
        · exact h.elim
      · exact h.elim
    · exact h.elim
  · exact h.elim

theorem groundL_vals (hg : Gam c ρ s a w) : ∀ {l : List Operand}, AV.groundL (l.map s.eval) = true → (l.map a.eval).toArray = AV.vals (l.map s.eval) := by
  intro l h
  simp only [AV.groundL, Bool.and_eq_true] at h
  unfold AV.vals
  congr 1
  have e1 : AV.denL ρ (l.map s.eval) = AV.denL (fun _ => 0) (l.map s.eval) := AV.denL_congr (p := fun _ => false) (fun i hi => by cases hi) _ h.2
  rw [← e1, AV.denL_eq, List.map_map]
  apply List.map_congr_left
  intro x hx
  have hs := h.1
  rw [AV.sureL_eq, List.all_eq_true] at hs
  have := hs (s.eval x) (List.mem_map.2 ⟨x, hx, rfl⟩)
  exact (hg.eval x).out fun e => by rw [e] at this; cases this

theorem groundL_app {l m : List AV} : AV.groundL (l ++ m) = (AV.groundL l && AV.groundL m) := by
  simp only [AV.groundL, AV.sureL_eq, AV.wfL_eq, List.all_append]
  cases l.all AV.sure <;> cases m.all AV.sure <;> simp

theorem vals_app (l m : List AV) : AV.vals (l ++ m) = AV.vals l ++ AV.vals m := by
  simp [AV.vals, AV.denL_eq]

theorem call_run (hg : Gam c ρ s a w) {f : Operand} {args : Array Operand} {ats : Array TypeId} {ty : TypeId} {g : Nat} {fst cap : List AV} (he : s.eval f = .clo (.func g) fst cap)
    (hgr : AV.groundL (fst ++ args.toList.map s.eval ++ cap) = true) (P : Program) :
    ((do let d ← resolve a.eval { callee := .value f, args := args, argTypes := ats } ty; invoke d.target d.args : Sem Next)).run P w = (callFunc g (AV.vals (fst ++ args.toList.map s.eval ++ cap))).run P w := by
  have ef := hg.evalD he (by simp)
  rw [groundL_app, groundL_app, Bool.and_eq_true, Bool.and_eq_true] at hgr
  have hargs := groundL_vals hg hgr.1.2
  simp only [AV.groundL, Bool.and_eq_true] at hgr
  have e1 : AV.denL ρ fst = AV.denL (fun _ => 0) fst := AV.denL_congr (p := fun _ => false) (fun i hi => by cases hi) _ hgr.1.1.2
  have e2 : AV.denL ρ cap = AV.denL (fun _ => 0) cap := AV.denL_congr (p := fun _ => false) (fun i hi => by cases hi) _ hgr.2.2
  have hall : ((AV.denL ρ fst).toArray ++ args.map a.eval) ++ (AV.denL ρ cap).toArray = AV.vals (fst ++ args.toList.map s.eval ++ cap) := by
    rw [vals_app, vals_app, ← hargs, e1, e2]
    have : args.map a.eval = (args.toList.map a.eval).toArray := by apply Array.ext'; simp
    rw [this]; rfl
  simp only [resolve, ef, AV.den, Deferred.ofValue, Sem.run_bind, Sem.run_pure, Result.andThen_ok, invoke]
  rw [hall]

theorem bui_run (hg : Gam c ρ s a w) {b : Builtin} {args : Array Operand} {ats : Array TypeId} {ty : TypeId} (hb : ∀ cs, builtin b ats ty cs (args.map a.eval) = builtin b ats 0 #[] (args.map a.eval))
    (hgr : AV.groundL (args.toList.map s.eval) = true) (P : Program) :
    ((do let d ← resolve a.eval { callee := .builtin b, args := args, argTypes := ats } ty; invoke d.target d.args : Sem Next)).run P w = (builtin b ats.toList.toArray 0 #[] (AV.vals (args.toList.map s.eval))).run P w := by
  have hargs := groundL_vals hg hgr
  have hargs' : args.map a.eval = AV.vals (args.toList.map s.eval) := by rw [← hargs]; apply Array.ext'; simp
  have hat : ats.toList.toArray = ats := by simp
  simp only [resolve, Sem.run_bind, Sem.run_pure, Result.andThen_ok, invoke]
  rw [hb, hat, hargs']

theorem eAsk_sound {up : Bool} {o : Oper} {p : Mem → AV → Prop} (h : eAsk c up o.op s.eval s.M p) : Effs PR c up o s p := by
  intro ρ a w hg
  unfold eAsk at h
  unfold execOp
  have hB : c.B0 ≤ w.heap.size := hg.fr.size
  split at h
  · rename_i f args ats ho
    rw [ho]
    split at h
    · rename_i g fst cap he
      dsimp only at h
      by_cases hgr : AV.groundL (fst ++ args.toList.map s.eval ++ cap) = true
      · rw [if_pos hgr] at h
        cases h with
        | mk h =>
          exact (congrArg (ResV PR _) (call_run (args := args) (ats := ats) (ty := o.type) hg he hgr PR)).mpr (h w hg.mem hB)
      · rw [if_neg hgr] at h; exact h.elim
    · exact h.elim
  · rename_i b args ats ho
    rw [ho]
    dsimp only at h
    by_cases hgr : AV.groundL (args.toList.map s.eval) = true
    · rw [if_pos hgr] at h
      split at h
      · cases h with
        | mk h =>
          exact (congrArg (ResV PR _) (bui_run (args := args) (ats := ats) (ty := o.type) hg (fun _ => rfl) hgr PR)).mpr (h w hg.mem hB)
      · cases h with
        | mk h =>
          exact (congrArg (ResV PR _) (bui_run (args := args) (ats := ats) (ty := o.type) hg (fun _ => rfl) hgr PR)).mpr (h w hg.mem hB)
      · exact h.elim
    · rw [if_neg hgr] at h; exact h.elim
  · exact h.elim

theorem opStep_sound {g lz : Bool} {m : Md} {o : Oper} {k : S → Prop} (hw : s.WF) (h : opStep c g lz m o s k) : TT PR IB c m o k s := by
  unfold opStep stepK at h
  unfold TT
  cases hk : kd o <;> simp only [hk] at h ⊢
  · have val : ∀ {r : AV}, vF o.op s.eval (s.drop m.avoid).ob = some r → r.wf s.live = true ∧ Reads PR c o (s.drop m.avoid) r ∧ valF TB o.op s.eval s.ob = some r := fun {r} hv => by
      have h1 := valF_drop (ids := m.avoid) hv
      refine ⟨valF_wf tb_ok hw h1, fun ρ a w hg => ?_, h1⟩
      have : valF TB o.op (s.drop m.avoid).eval (s.drop m.avoid).ob = some r := by rw [eval_drop]; exact hv
      exact val_sound tb_ok this hg
    split at h
    · rename_i b hv
      obtain ⟨h1, h2, h3⟩ := val hv
      have h1' : (AV.sb b).wf (s.drop m.avoid).live = true := rfl
      split at h
      · rename_i hc
        simp only [Bool.and_eq_true, Bool.not_eq_true'] at hc
        have h : BrS b (k (s.put o.dst .tt)) (k (s.put o.dst .ff)) := by
          split at h
          · obtain ⟨ht, hf⟩ := h
            exact ⟨fun e => (ht e).1, fun e => (hf e).1⟩
          · exact h
        obtain ⟨ht, hf⟩ := h
        cases hb : b () with
        | true =>
          refine ⟨.tt, rfl, fun ρ a w hg => ?_, (fun e => by rw [hc.2] at e; cases e), fun _ _ => ht hb⟩
          obtain ⟨v, hv, hd⟩ := h2 ρ a w hg
          exact ⟨v, hv, .inr ((hd.out (by simp)).trans (by simp [AV.den, hb]))⟩
        | false =>
          refine ⟨.ff, rfl, fun ρ a w hg => ?_, (fun e => by rw [hc.2] at e; cases e), fun _ _ => hf hb⟩
          obtain ⟨v, hv, hd⟩ := h2 ρ a w hg
          exact ⟨v, hv, .inr ((hd.out (by simp)).trans (by simp [AV.den, hb]))⟩
      · exact ⟨_, h1', h2, fun _ => h3, fun _ _ => h⟩
    · rename_i r hv
      obtain ⟨h1, h2, h3⟩ := val (by assumption)
      split at h
      · rename_i hav; exact ⟨_, by rw [hav]; exact h1, h2, fun _ => h3, fun _ _ => h⟩
      · split at h
        · rename_i hwf; exact ⟨_, hwf, h2, fun _ => h3, fun _ _ => h⟩
        · exact h.elim
    · split at h
      · exact h.elim
      · rename_i hdet
        split at h
        · rename_i hav
          obtain ⟨r, h1, h2⟩ := rAsk_split h
          refine ⟨r, by rw [hav]; exact rAsk_wf hw h1, fun ρ a w hg => ?_, fun e => absurd e hdet, fun _ _ => h2⟩
          exact rAsk_sound hg rfl (by rw [eval_drop, S.drop_M]; exact h1)
        · obtain ⟨r, h1, h2⟩ := rAsk_split h
          split at h2
          · rename_i hwf
            refine ⟨r, hwf, fun ρ a w hg => ?_, fun e => absurd e hdet, fun _ _ => h2⟩
            exact rAsk_sound hg rfl (by rw [eval_drop, S.drop_M]; exact h1)
          · exact h2.elim
  · exact Effs.mono (eAsk_sound h) fun M' r _ _ _ _ _ _ _ hk _ _ => hk
  · split at h
    · rename_i n hn
      obtain ⟨h1, h2⟩ := h
      exact ⟨n, hn, h1, fun b hb hB _ _ => h2 b _ hb hB rfl⟩
    · exact h.elim
  · split at h
    · rename_i d T l hd hal
      split at h
      · rename_i hob
        split at h
        · rename_i hlt; exact ⟨d, T, l, hd, hal, hob, hlt, fun _ _ => h⟩
        · exact h.elim
      · exact h.elim
    · exact h.elim
  · split at h
    · rename_i t x y hd ho
      split at h
      · rename_i id off he
        split at h
        · rename_i j T l' hst
          split at h
          · rename_i hav
            simp only [Bool.or_eq_true] at hav
            exact .inr ⟨j, T, l', hd, hst, (fun hne => by
              rcases hav with hav | hav
              · exact absurd (List.isEmpty_iff.1 hav) hne
              · simpa using hav), fun _ _ => h⟩
          · exact h.elim
        · exact h.elim
      · rename_i b q he
        split at h
        · rename_i l ti hl hti
          split at h
          · rename_i hc
            obtain ⟨M', h1, h2⟩ := h
            obtain ⟨hc0, hc⟩ := hc
            refine .inl ⟨M', hd, List.isEmpty_iff.1 hc0, fun ρ a w hg => ?_, fun _ _ => h2⟩
            · obtain ⟨w', hw', hgr⟩ := h1 w hg.mem hg.fr.size
              refine ⟨w', ?_, hgr⟩
              have ex : a.eval (.tmp x) = .pointer (some ⟨b (), q (), none⟩) := hg.evalD (x := .tmp x) (y := .el b q) he (by simp)
              have hcells := AV.cellsA_den hl (hg.eval y)
              have hg2 := hc.2
              simp only [AV.groundL, Bool.and_eq_true] at hg2
              have hden : AV.denL ρ l = AV.denL (fun _ => 0) l := AV.denL_congr (p := fun _ => false) (fun i hi => by cases hi) l hg2.2
              have hty := tb_ok.ty t ti hti
              unfold execOp
              rw [ho]
              simp [Instr.storeAt, ex, Instr.sureAddr, storeVar, hty.run_sizeOf, hcells, hden, denL_length, hc.1, hw']
          · exact h.elim
        · exact h.elim
      · exact h.elim
    · exact h.elim

theorem guardL_eq {ops : List Oper} {o : Oper} : guardL ops o s = guardV ops.toArray o s := by
  unfold guardL guardV
  cases o.guard with
  | none => rfl
  | some p => simp only [List.getElem?_toArray]; rfl

theorem runOps_sound {ops : Unit → List Oper} {gs : List Nat} {mds : List (Nat × Md)} {k : S → Prop} : ∀ {l : List Nat} {s : S}, gamNE c s → s.WF → runOps c ops gs mds l s k → runG PR IB c (ops ()).toArray mds l k s
  | [], s, _, _, h => h
  | i :: l, s, hne, hw, h => by
    unfold runOps at h
    unfold runG TGi
    split at h
    · exact h.elim
    · rename_i o ho
      have ho' : (ops ()).toArray[i]? = some o := by simpa using ho
      simp only [ho']
      unfold TG
      rw [guardL_eq] at h
      split at h
      · rename_i hgv
        rw [hgv]
        exact TT.mono (fun s' hne' hw' _ hk => runOps_sound hne' hw' hk) (opStep_sound hw h)
      · rename_i hgv
        rw [hgv]
        exact fun hne' hw' => runOps_sound hne' hw' h
      · exact h.elim

end
end Go.SX

/- The executor is sound, 3: the code's frame; how a function's contract is proved by it; loops; calls. -/
namespace Go.SX
open Go.RowKit (Below)

section
variable {c : Ct} {ρ : Nat → Nat} {s : S} {a : Act} {w : World} {f : Nat} {K : S → AV → Prop} {cs : List Frame}

theorem Fin.steps {m m' : Machine} (h : Steps PR m m') (h' : Fin f cs c K m') : Fin f cs c K m := by
  obtain ⟨v, w', fr, h1, h2, h3⟩ := h'
  exact ⟨v, w', fr, h1, h.trans h2, h3⟩

/-- The results are read. -/
def resOne (tmps : Array Value) : ResultVar → Sem Value
  | .tmp t => pure (tmps.getD t undef)
  | .cell a t => do loadVar t (← asAddr (tmps.getD a undef))

theorem resA_run (hg : Gam c ρ s a w) : ∀ {rs : List ResultVar} {l : List AV}, resA s rs = some l → AV.sureL l = true → (rs.mapM (resOne a.tmps)).run PR w = .ok (AV.denL ρ l) w
  | [], l, h, _ => by simp [resA] at h; subst h; rfl
  | .tmp t :: rs, l, h, hs => by
    simp only [resA, Option.map_eq_some_iff] at h
    obtain ⟨k, hk, rfl⟩ := h
    simp only [AV.sureL, Bool.and_eq_true] at hs
    have hd := (hg.tmp t).out fun e => by rw [e] at hs; cases hs.1
    rw [List.mapM_cons]
    simp only [resOne, pure_bind, Sem.run_bind, resA_run hg hk hs.2, Result.andThen_ok, Sem.run_pure, AV.denL, hd]
  | .cell x t :: rs, l, h, hs => by
    simp only [resA] at h
    split at h
    · rename_i r k hr hk
      cases h
      simp only [AV.sureL, Bool.and_eq_true] at hs
      have hld : (do let v ← loadVar t (← asAddr (a.tmps.getD x undef)); pure v : Sem Value).run PR w = .ok (r.den ρ) w := by
        have hv := val_sound (o := { dst := none, op := .load t (.tmp x), type := 0, pos := "", after := #[], guard := none }) tb_ok hr hg
        obtain ⟨v, h1, h2⟩ := hv
        have hd := h2.out fun e => by rw [e] at hs; cases hs.1
        subst hd
        unfold vF valF at hr
        simp only at hr
        split at hr
        · rename_i id off he
          have ex : a.tmps.getD x undef = .pointer (some ⟨ρ id, off, none⟩) := hg.evalD (x := .tmp x) he (by simp)
          have ex' : a.eval (.tmp x) = .pointer (some ⟨ρ id, off, none⟩) := ex
          simp only [execOp, Instr.loadAt, ex', Instr.sureAddr, pure_bind, Sem.run_bind] at h1
          rw [ex]
          simp only [asAddr, pure_bind]
          generalize (loadVar t ⟨ρ id, off, none⟩).run PR w = res at h1
          cases res with
          | ok v' w' =>
            simp only [Result.andThen_ok, Sem.run_pure, Result.ok.injEq, Next.value.injEq] at h1
            obtain ⟨rfl, rfl⟩ := h1
            rfl
          | halt x' w' => cases h1
        · cases hr
      rw [List.mapM_cons]
      have hld' : (resOne a.tmps (.cell x t)).run PR w = .ok (r.den ρ) w := by simpa [resOne] using hld
      simp only [Sem.run_bind, hld', resA_run hg hk hs.2, Result.andThen_ok, Sem.run_pure, AV.denL]
    · cases h

theorem results_run {fn : Func} {rs : List ResultVar} (hres : fn.results.toList = rs) (hg : Gam c ρ s a w) {l : List AV} (h : resA s rs = some l) (hs : AV.sureL l = true) :
    (results fn a.tmps).run PR w = .ok (match l with | [r] => r.den ρ | l => (AV.tup l).den ρ) w := by
  have h1 := resA_run hg h hs
  have hfun : results fn a.tmps = (do
      let vs ← fn.results.mapM (resOne a.tmps)
      pure (if h : vs.size = 1 then vs[0] else .tuple vs)) := by
    unfold results
    congr 1
  rw [hfun, Array.mapM_eq_mapM_toList, hres]
  simp only [map_eq_pure_bind, bind_assoc, pure_bind, Sem.run_bind, h1, Result.andThen_ok, Sem.run_pure]
  match l with
  | [] => simp [AV.denL, AV.den]
  | [r] => simp [AV.denL]
  | r :: r' :: l => simp [AV.denL, AV.den]

theorem resK_sound {fn : Func} {rs : List ResultVar} (hf : PR.funcs[f]? = some fn) (hres : fn.results.toList = rs) (h : resK K rs s) {b : Frame} (hbf : b.fn = f) (hbk : b.kind = .normal) (hw : s.WF) (hg : Gam c ρ s a w) (todo : List Item) :
    Fin f cs c K (lone { b.at a todo with mode := .returning } cs w) := by
  unfold resK at h
  have fin : ∀ {r : AV}, (results fn a.tmps).run PR w = .ok (r.den ρ) w → r.sure = true → K s r → Fin f cs c K (lone { b.at a todo with mode := .returning } cs w) := fun {r} h1 h2 h3 =>
    ⟨r.den ρ, w, _, ⟨ρ, s, r, a, hw, hg, rfl, h2, h3⟩, Steps.refl PR _, hbf, rfl, hg.defers, hbk, fn, (by simpa [Frame.at, hbf] using hf), h1⟩
  split at h
  · rename_i r hr
    split at h
    · rename_i hs
      exact fin (results_run hres hg hr (by simp [AV.sureL, hs])) hs h
    · exact h.elim
  · rename_i l hne hl
    split at h
    · rename_i hs
      have := results_run hres hg hl hs
      refine fin (r := .tup l) ?_ (by simpa [AV.sure] using hs) h
      rw [this]
      match l, hne with
      | [], _ => rfl
      | [r], hne => exact absurd rfl (hne r)
      | r :: r' :: l, _ => rfl
    · exact h.elim
  · exact h.elim

/-- Each region's order serves it. -/
def Q.ok : Q → Bool
  | .region _ ops _ draw ord mds =>
    let o := (ops ()).toArray
    if draw then Region.noSelect o && decide (ord.length = o.size) && chkOrd o mds (befsL (ops ()) []) ord (Array.replicate o.size false) else decide (ord = List.range o.size)
  | .seq a b => (a ()).ok && (b ()).ok
  | .cond _ a b => (a ()).ok && (b ()).ok
  | .block _ b => (b ()).ok
  | .loop b => (b ()).ok
  | .stop q => (q ()).ok
  | _ => true

def itOk : It → Bool
  | .code q | .inLoop q => (q ()).ok
  | .inBlock _ => true

theorem all_code {q : Unit → Q} {r : List It} (h1 : (q ()).ok = true) (h2 : r.all itOk = true) : (It.code q :: r).all itOk = true := by
  rw [List.all_cons, h2, Bool.and_true]; exact h1
theorem all_block {id : Nat} {r : List It} (h2 : r.all itOk = true) : (It.inBlock id :: r).all itOk = true := by
  rw [List.all_cons, h2]; rfl

theorem exitAt_spec : ∀ {id : Nat} {r k : List It}, exitAt id r = some k → exitTo id (r.map It.item) = some (k.map It.item) ∧ (r.all itOk = true → k.all itOk = true)
  | id, [], k, h => by cases h
  | id, .inBlock i :: r, k, h => by
    simp only [exitAt] at h
    simp only [List.map_cons, It.item, exitTo]
    split at h
    · rename_i e; rw [if_pos e]; cases h; exact ⟨rfl, fun hr => by rw [List.all_cons, Bool.and_eq_true] at hr; exact hr.2⟩
    · rename_i e; rw [if_neg e]
      obtain ⟨h1, h2⟩ := exitAt_spec h
      exact ⟨h1, fun hr => h2 (by simp at hr ⊢; exact hr.2)⟩
  | id, .code q :: r, k, h => by
    obtain ⟨h1, h2⟩ := exitAt_spec (r := r) h
    exact ⟨h1, fun hr => h2 (by simp at hr ⊢; exact hr.2)⟩
  | id, .inLoop q :: r, k, h => by
    obtain ⟨h1, h2⟩ := exitAt_spec (r := r) h
    exact ⟨h1, fun hr => h2 (by simp at hr ⊢; exact hr.2)⟩

theorem OKS.of_step {f : Nat} {c : Ct} {K : S → AV → Prop} {stk stk' : List It} {s : S} (h : ∀ (b : Frame) (cs : List Frame) (a : Act) (w : World), step PR (lone (b.at a (stk.map It.item)) cs w) = .next (lone (b.at a (stk'.map It.item)) cs w))
    (h' : OKS f c K stk' s) : OKS f c K stk s := ⟨fun b cs ρ a w h1 h2 h3 h4 => Fin.steps (.one (h b cs a w)) (h'.ok b cs ρ a w h1 h2 h3 h4)⟩

theorem OKS.congr {f : Nat} {c : Ct} {K : S → AV → Prop} {stk stk' : List It} {s : S} (h : stk.map It.item = stk'.map It.item) (h' : OKS f c K stk' s) : OKS f c K stk s :=
  ⟨fun b cs ρ a w h1 h2 h3 h4 => by rw [h]; exact h'.ok b cs ρ a w h1 h2 h3 h4⟩

theorem run_sound {fn : Func} {rs : List ResultVar} (hf : PR.funcs[f]? = some fn) (hres : fn.results.toList = rs) :
    ∀ (n : Nat) (stk : List It) (s : S), stk.all itOk = true → run rs f c K n stk s → OKS f c K stk s
  | 0, stk, s, _, h => by unfold run at h; exact h
  | n + 1, [], s, _, h => by
    unfold run at h
    exact ⟨fun b cs ρ a w h1 h2 h3 h4 => Fin.steps (.one step_end) (resK_sound hf hres h h1 h2 h3 h4 [])⟩
  | n + 1, .inBlock id :: r, s, ho, h => by
    unfold run at h
    exact OKS.of_step (stk' := r) (fun b cs a w => step_inBlock) (run_sound hf hres n r s (by simp at ho ⊢; exact ho.2) h)
  | n + 1, .inLoop q :: r, s, ho, h => by unfold run at h; exact h
  | n + 1, .code q :: r, s, ho, h => by
    have hr : r.all itOk = true := by simp at ho ⊢; exact ho.2
    have hq : (q ()).ok = true := by simp [itOk] at ho; exact ho.1
    have hit : (It.code q).item = .code (q ()).code := rfl
    unfold run at h
    refine OKS.congr (stk' := .code (fun _ => q ()) :: r) rfl ?_
    generalize q () = x at *
    cases x with
    | skip => exact OKS.of_step (stk' := r) (fun b cs a w => step_skip) (run_sound hf hres n r s hr h)
    | seq x y =>
      simp only [Q.ok, Bool.and_eq_true] at hq
      exact OKS.of_step (stk' := .code x :: .code y :: r) (fun b cs a w => step_seq) (run_sound hf hres n _ s (all_code hq.1 (all_code hq.2 hr)) h)
    | cond x p q =>
      simp only at h
      simp only [Q.ok, Bool.and_eq_true] at hq
      have hp : ∀ {t : Bool}, (∀ ρ a w, Gam c ρ s a w → a.eval x = .bool t) → run rs f c K n (.code (if t then p else q) :: r) s → OKS f c K (.code (fun _ => .cond x p q) :: r) s := fun {t} he hk => by
        have h1 := run_sound hf hres n _ s (all_code (by cases t <;> simp [hq]) hr) hk
        refine ⟨fun b cs ρ a w k1 k2 k3 k4 => Fin.steps (.one ?_) (h1.ok b cs ρ a w k1 k2 k3 k4)⟩
        have := step_cond (P := PR) (b := b) (a := a) (k := r.map It.item) (cs := cs) (w := w) (x := (p ()).code) (y := (q ()).code) (he ρ a w k4)
        cases t <;> exact this
      split at h
      · rename_i e; exact hp (t := true) (fun ρ a w hg => hg.evalD e (by simp)) h
      · rename_i e; exact hp (t := false) (fun ρ a w hg => hg.evalD e (by simp)) h
      · rename_i b e
        obtain ⟨ht, hff⟩ := h
        cases hb : b () with
        | true => exact hp (t := true) (fun ρ a w hg => (hg.evalD e (by simp)).trans (by rw [AV.den, hb])) (ht hb)
        | false => exact hp (t := false) (fun ρ a w hg => (hg.evalD e (by simp)).trans (by rw [AV.den, hb])) (hff hb)
      · exact h.elim
    | block id x =>
      simp only [Q.ok] at hq
      exact OKS.of_step (stk' := .code x :: .inBlock id :: r) (fun b cs a w => step_block) (run_sound hf hres n _ s (all_code hq (all_block hr)) h)
    | exit id =>
      simp only at h
      split at h
      · rename_i k hk
        obtain ⟨h1, h2⟩ := exitAt_spec hk
        exact OKS.of_step (stk' := k) (fun b cs a w => step_exit h1) (run_sound hf hres n k s (h2 hr) h)
      · exact h.elim
    | loop x => exact h
    | stop x => exact OKS.congr (stk' := .code x :: r) rfl h
    | ret => exact ⟨fun b cs ρ a w h1 h2 h3 h4 => Fin.steps (.one step_ret) (resK_sound hf hres h h1 h2 h3 h4 _)⟩
    | region id ops gs draw ord mds =>
      refine ⟨fun b cs ρ a w h1 h2 h3 h4 => ?_⟩
      have hwp : (Code.region id (ops ()).toArray draw).wp PR (Past c fun s => run rs f c K n r s) a w := by
        cases draw with
        | true =>
          simp only [Q.ok, if_true, Bool.and_eq_true, decide_eq_true_eq] at hq
          exact region_draw ib_ok follows_ok hq.1.1 hq.1.2 hq.2 h4 h3 (runOps_sound h4.ne h3 h)
        | false =>
          simp only [Q.ok, Bool.false_eq_true, if_false, decide_eq_true_eq] at hq
          have h' := runOps_sound h4.ne h3 h
          rw [hq] at h'
          exact region_text ib_ok h4 h3 h'
      obtain ⟨e, a', w', ⟨rfl, ρ', s', hw', hg', hk⟩, harr⟩ := hwp b (r.map It.item) cs
      exact Fin.steps harr ((run_sound hf hres n r s' hr hk).ok b cs ρ' a' w' h1 h2 hw' hg')

end
end Go.SX

/- How a function's contract is proved and used. -/
namespace Go.SX
open Go.RowKit (Below)

/-- Memory M' has all that M has, as it was, but for the blocks L. -/
def Keeps (L : Nat → Bool) (M M' : Mem) : Prop := ∀ b, M b ≠ none → L b = false → M' b = M b
def noL : Nat → Bool := fun _ => false

theorem Keeps.refl (L : Nat → Bool) (M : Mem) : Keeps L M M := fun _ _ _ => rfl
theorem Keeps.trans {L : Nat → Bool} {M N O : Mem} (h : Keeps L M N) (k : Keeps L N O) : Keeps L M O := fun b hb hl => by
  have e := h b hb hl
  rw [← e] at hb ⊢
  exact k b hb hl
theorem Keeps.le {M M' : Mem} (h : Keeps noL M M') : M.le M' := fun b f hb => ⟨f, (h b (by rw [hb]; simp) rfl).trans hb, f.le_refl⟩
theorem Keeps.any {M M' : Mem} (h : Keeps noL M M') (L : Nat → Bool) : Keeps L M M' := fun b hb _ => h b hb rfl
theorem Keeps.set {L : Nat → Bool} {M M' : Mem} (h : Keeps L M M') {b : Nat} {f : Frag} (hb : M b = none ∨ L b = true) : Keeps L M (M'.set b f) := fun i hi hl => by
  have : i ≠ b := fun e => by subst e; rcases hb with hb | hb
                              · exact hi hb
                              · rw [hb] at hl; cases hl
  simp [Mem.set, this, h i hi hl]

/-- Nothing that was there has changed, but for the blocks L. -/
structure BelowX (L : Nat → Bool) (w w' : World) : Prop where
  os : w'.os = w.os
  tape : w'.tape = w.tape
  output : w'.output = w.output
  froz : ∀ a, w'.frozen? a = w.frozen? a
  size : w.heap.size ≤ w'.heap.size
  block : ∀ b, b < w.heap.size → L b = false → w'.heap[b]? = w.heap[b]?

/-- What a call of f comes to, whatever else memory holds: nothing that was there is touched but for the blocks L. -/
def SpecU (f : Nat) (args : Array Value) (M : Mem) (L : Nat → Bool) (Post : Nat → Mem → Value → Prop) : Prop :=
  ∀ w, M.on w → ResV PR (fun v w' => ∃ M', M'.on w' ∧ BelowX L w w' ∧ Keeps L M M' ∧ (∀ b, M' b ≠ none → M b ≠ none ∨ w.heap.size ≤ b) ∧ Post w.heap.size M' v) ((callFunc f args).run PR w)

def Spec (f : Nat) (args : Array Value) (M : Mem) (Post : Nat → Mem → Value → Prop) : Prop := SpecU f args M noL Post

/-- .. and it only reckons. -/
def Pure1 (f : Nat) (args : Array Value) (M : Mem) (v : Value) : Prop := Spec f args M fun _ M' v' => M' = M ∧ v' = v

theorem SpecU.mono {f : Nat} {args : Array Value} {M : Mem} {L : Nat → Bool} {P Q : Nat → Mem → Value → Prop} (h : SpecU f args M L P) (hq : ∀ B M' v, Keeps L M M' → P B M' v → Q B M' v) : SpecU f args M L Q := fun w hm =>
  (h w hm).mono fun _ _ ⟨M', h3, h4, h5, h6, h7⟩ => ⟨M', h3, h4, h5, h6, hq _ _ _ h5 h7⟩

theorem Spec.mono {f : Nat} {args : Array Value} {M : Mem} {P Q : Nat → Mem → Value → Prop} (h : Spec f args M P) (hq : ∀ B M' v, Keeps noL M M' → P B M' v → Q B M' v) : Spec f args M Q := SpecU.mono h hq

section
variable {c : Ct} {f : Nat} {K : S → AV → Prop} {s : S}

/-- What the end of a call owes. -/
structure KOk (c : Ct) (M : Mem) (L : Nat → Bool) (Post : Nat → Mem → Value → Prop) (K : S → AV → Prop) : Prop where
  M0 : c.M0 = M
  lent : c.lent = L
  lt : ∀ b, M b ≠ none → b < c.B0
  fin : ∀ s r, (∀ ρ a w, s.WF → Gam c ρ s a w → ∃ M' : Mem, M'.on w ∧ Keeps L M M' ∧ (∀ b, M' b ≠ none → M b ≠ none ∨ c.B0 ≤ b) ∧ Post c.B0 M' (r.den ρ)) → K s r

theorem KOk.ground {M : Mem} {L : Nat → Bool} {Post : Nat → Mem → Value → Prop} (h : KOk c M L Post K) {r : AV} (hr : r.ground = true) (hk : Keeps L M s.M) (hp : Post c.B0 s.M r.val) : K s r :=
  h.fin s r fun ρ _ _ _ hg => ⟨s.M, hg.mem, hk, fun b hb => by have := hg.new b hb; rwa [h.M0] at this, by rw [AV.ground_den hr]; exact hp⟩

theorem KOk.pure {M : Mem} {v : Value} (h : KOk c M noL (fun _ M' v' => M' = M ∧ v' = v) K) {r : AV} (hr : r.ground = true) (hm : M.le s.M) (hp : r.val = v) : K s r :=
  h.fin s r fun ρ _ _ _ hg => ⟨M, Mem.on_le hm hg.mem, Keeps.refl _ _, fun _ hb => .inl hb, rfl, by rw [AV.ground_den hr]; exact hp⟩

/-- The state in which a function's body begins. -/
def entry (ps : List AV) (n : Nat) (M : Mem) : S := ⟨ps ++ List.replicate (n - ps.length) uav, List.replicate n .none, M⟩

theorem entry_gam {w : World} {ps : List AV} {n : Nat} {M : Mem} {L : Nat → Bool} (hps : AV.groundL ps = true) (hn : ps.length ≤ n) (hm : M.on w) :
    Gam ⟨w, M, L⟩ (fun _ => 0) (entry ps n M) { tmps := AV.vals ps ++ Array.replicate (n - (AV.vals ps).size) undef, defers := [] } w ∧ (entry ps n M).WF := by
  have hsz : (AV.vals ps).size = ps.length := by simp [AV.vals, denL_length]
  have hob : ∀ i, (entry ps n M).ob i = .none := fun i => by
    simp only [S.ob, entry, List.getD_eq_getElem?_getD, List.getElem?_replicate]
    split <;> rfl
  simp only [AV.groundL, Bool.and_eq_true] at hps
  have hget : ∀ t, (entry ps n M).get t = ps.getD t uav := fun t => by
    simp only [S.get, entry, List.getD_eq_getElem?_getD]
    by_cases ht : t < ps.length
    · rw [List.getElem?_append_left ht, List.getElem?_eq_getElem ht]; rfl
    · rw [List.getElem?_append_right (by omega), List.getElem?_eq_none (l := ps) (by omega), List.getElem?_replicate]
      split
      · rfl
      · rfl
  refine ⟨{ tsz := ?_, tmp := fun t => ?_, defers := rfl, mem := hm, ob := fun i T l hi => ?_, inj := fun i j hi => ?_, fr := ⟨rfl, rfl, rfl, fun _ => rfl, Nat.le_refl _, fun _ _ _ => rfl⟩, new := fun b hb => .inl hb }, { tmps := fun t => ?_, objs := fun i T l hi => ?_, len := ?_ }⟩
  · simp [entry, hsz]
  · rw [hget]
    by_cases ht : t < ps.length
    · right
      have h1 : (AV.vals ps ++ Array.replicate (n - (AV.vals ps).size) undef).getD t undef = (AV.vals ps).getD t undef := by
        simp only [Array.getD_eq_getD_getElem?]
        rw [Array.getElem?_append_left (by rw [hsz]; exact ht)]
      rw [h1]
      simp only [AV.vals, Array.getD_eq_getD_getElem?, List.getElem?_toArray, denL_get, List.getD_eq_getElem?_getD, List.getElem?_eq_getElem ht, Option.map_some, Option.getD_some]
    · have h1 : (AV.vals ps ++ Array.replicate (n - (AV.vals ps).size) undef).getD t undef = undef := by
        simp only [Array.getD_eq_getD_getElem?]
        rw [Array.getElem?_append_right (by rw [hsz]; omega), Array.getElem?_replicate]
        split <;> rfl
      rw [h1]
      right
      rw [List.getD_eq_getElem?_getD, List.getElem?_eq_none (by omega)]
      rfl
  · rw [hob] at hi; cases hi
  · simp [S.live, hob, Ob.live] at hi
  · rw [hget]
    by_cases ht : t < ps.length
    · have := hps.2
      rw [AV.wfL_eq, List.all_eq_true] at this
      rw [List.getD_eq_getElem?_getD, List.getElem?_eq_getElem ht]
      exact AV.wf_mono (fun i hi => by cases hi) _ (this _ (List.getElem_mem ht))
    · rw [List.getD_eq_getElem?_getD, List.getElem?_eq_none (by omega)]
      exact AV.ground_wf uav_ground _
  · rw [hob] at hi; cases hi
  · simp [entry]; omega

theorem mem_lt {M : Mem} {w : World} (h : M.on w) {b : Nat} (hb : M b ≠ none) : b < w.heap.size := by
  cases hm : M b with
  | none => exact absurd hm hb
  | some f =>
    have := h b f hm
    rcases Nat.lt_or_ge b w.heap.size with h' | h'
    · exact h'
    · rw [Array.getElem?_eq_none h'] at this
      cases f with
      | obj o => simp [Frag.on] at this
      | row T N c => obtain ⟨r, h1, _⟩ := this; cases h1

/-- **A function's contract**, by the executor. -/
theorem SpecU.of_run {fn : Func} {q : Unit → Q} {rs : List ResultVar} (n : Nat) (hf : PR.funcs[f]? = some fn) (hcall : ∀ args w, (callFunc f args).run PR w = .ok (.enter f args) w) (hb : fn.body = some (q ()).code)
    (hres : fn.results.toList = rs) (hod : (q ()).ok = true) {ps : List AV} {M : Mem} {L : Nat → Bool} {Post : Nat → Mem → Value → Prop} (hps : AV.groundL ps = true) (hn : ps.length ≤ fn.ntmps)
    (h : ∀ (c : Ct) (K : S → AV → Prop), KOk c M L Post K → run rs f c K n [.code q] (entry ps fn.ntmps M)) : SpecU f (AV.vals ps) M L Post := by
  intro w hm
  rw [hcall]
  obtain ⟨hg, hw⟩ := entry_gam (n := fn.ntmps) (L := L) hps hn hm
  have hrun := h ⟨w, M, L⟩ (fun s r => ∀ ρ a w', s.WF → Gam ⟨w, M, L⟩ ρ s a w' → ∃ M' : Mem, M'.on w' ∧ Keeps L M M' ∧ (∀ b, M' b ≠ none → M b ≠ none ∨ w.heap.size ≤ b) ∧ Post w.heap.size M' (r.den ρ))
    ⟨rfl, rfl, fun b hb => mem_lt hm hb, fun s r h => h⟩
  have hok := run_sound hf hres n _ _ (all_code hod (by rfl)) hrun
  intro cs
  let b : Frame := { (default : Frame) with fn := f, kind := .normal }
  have henter : Frame.enter PR f (AV.vals ps) .normal = b.at { tmps := AV.vals ps ++ Array.replicate (fn.ntmps - (AV.vals ps).size) undef, defers := [] } [(It.code q).item] := by
    simp [It.item, Frame.enter, Frame.at, hf, hb, b]
  obtain ⟨v, w', fr, ⟨ρ, s, r, a, hw', hg', hv, _, hk⟩, h2, h3, h4⟩ := hok.ok b cs _ _ _ rfl rfl hw hg
  obtain ⟨M', k1, k2, k3, k4⟩ := hk ρ a w' hw' hg'
  refine ⟨.returned v, w', fr, ⟨v, rfl, M', k1, ⟨hg'.fr.os, hg'.fr.tape, hg'.fr.output, hg'.fr.froz, hg'.fr.size, hg'.fr.block⟩, k2, k3, by rw [hv]; exact k4⟩, ?_, h3, h4⟩
  rw [henter]; exact h2

/-! ### A call by its contract -/

theorem CallS.specU {up : Bool} {g : Nat} {args : List AV} {vs : Array Value} {M : Mem} {L : Nat → Bool} {p : Mem → AV → Prop} {Post : Nat → Mem → Value → Prop} (h : SpecU g vs M L Post) (ha : AV.vals args = vs)
    (hL : ∀ b, L b = true → M b ≠ none ∧ (c.B0 ≤ b ∨ c.lent b = true)) (hup : up = true ∨ ∀ b, L b = false)
    (hk : ∀ B M' v, c.B0 ≤ B → (∀ b, M b ≠ none → b < B) → Keeps L M M' → (∀ b, M' b ≠ none → M b ≠ none ∨ B ≤ b) → Post B M' v → ∃ r : AV, r.ground = true ∧ r.val = v ∧ p M' r) : CallS c up g args M p := by
  refine ⟨fun w hm hB => ?_⟩
  rw [ha]
  refine (h w hm).mono fun v w' ⟨M', h3, h4, h5, h6, h7⟩ => ?_
  obtain ⟨r, h1, h2, hp⟩ := hk _ _ _ hB (fun b hb => mem_lt hm hb) h5 h6 h7
  refine ⟨M', r, h2.symm, h1, ⟨fun hu => ?_, h3, h4.os, h4.tape, h4.output, h4.froz, h4.size, fun b hb ho => h4.block b hb ?_, h6⟩, hp⟩
  · rcases hup with hup | hup
    · rw [hup] at hu; cases hu
    · exact fun b f hb => ⟨f, (h5 b (by rw [hb]; simp) (hup b)).trans hb, f.le_refl⟩
  · cases hl : L b with
    | false => rfl
    | true =>
      obtain ⟨k1, k2⟩ := hL b hl
      rcases ho with ho | ho
      · exact absurd ho k1
      · obtain ⟨o1, o2⟩ := ho
        rcases k2 with k2 | k2
        · omega
        · rw [k2] at o2; cases o2

theorem CallS.spec {up : Bool} {g : Nat} {args : List AV} {vs : Array Value} {M : Mem} {p : Mem → AV → Prop} {Post : Nat → Mem → Value → Prop} (h : Spec g vs M Post) (ha : AV.vals args = vs)
    (hk : ∀ B M' v, c.B0 ≤ B → (∀ b, M b ≠ none → b < B) → Keeps noL M M' → (∀ b, M' b ≠ none → M b ≠ none ∨ B ≤ b) → Post B M' v → ∃ r : AV, r.ground = true ∧ r.val = v ∧ p M' r) : CallS c up g args M p :=
  CallS.specU h ha (fun b hb => by cases hb) (.inr fun _ => rfl) hk

theorem CallS.pure {up : Bool} {g : Nat} {args : List AV} {vs : Array Value} {M : Mem} {p : Mem → AV → Prop} {v : Value} (h : Pure1 g vs M v) (ha : AV.vals args = vs) (r : AV) (hr : r.ground = true) (hv : r.val = v) (hk : p M r) : CallS c up g args M p :=
  CallS.spec h ha fun _ _ _ _ _ _ _ ⟨h1, h2⟩ => by subst h1; subst h2; exact ⟨r, hr, hv, hk⟩

/-! ### Weaker states -/

/-- Two values that are the same (kept from being looked into). -/
structure EqU {α : Type} (a b : Unit → α) : Prop where
  eq : a () = b ()

@[simp] theorem EqU.rfl_iff {α : Type} {a : Unit → α} : EqU a a ↔ True := ⟨fun _ => trivial, fun _ => ⟨rfl⟩⟩
theorem EqU.iff {α : Type} {a b : Unit → α} : EqU a b ↔ a () = b () := ⟨fun h => h.eq, fun h => ⟨h⟩⟩

mutual
/-- x says at least what y says. -/
def leA : AV → AV → Prop
  | _, .any => True
  | .sym k n, .sym k' n' => k = k' ∧ EqU n n'
  | .int k n, .sym k' n' => k = k' ∧ EqU (fun _ => n) n'
  | .int k n, .int k' n' => k = k' ∧ n = n'
  | .sb b, .sb b' => EqU b b'
  | .tt, .sb b' => EqU (fun _ => true) b'
  | .ff, .sb b' => EqU (fun _ => false) b'
  | .tt, .tt | .ff, .ff | .nils, .nils => True
  | .ptr i o, .ptr i' o' => i = i' ∧ o = o'
  | .el b o, .el b' o' => EqU b b' ∧ EqU o o'
  | .slice a n c, .slice a' n' c' => EqU a a' ∧ EqU n n' ∧ EqU c c'
  | .nils, .slice a n c => EqU (fun _ => none) a ∧ EqU (fun _ => 0) n ∧ EqU (fun _ => 0) c
  | .v x, .v y => EqU x y
  | .tup l, .tup m | .agg l, .agg m => leSL l m
  | .clo f a b, .clo g a' b' => f = g ∧ leSL a a' ∧ leSL b b'
  | _, _ => False
/-- The same of lists, nothing unknown. -/
def leSL : List AV → List AV → Prop
  | [], [] => True
  | x :: l, y :: m => y.known = true ∧ leA x y ∧ leSL l m
  | _, _ => False
end

mutual
theorem leA_den {ρ : Nat → Nat} : ∀ {x y : AV}, leA x y → y.known = true → x.known = true ∧ x.den ρ = y.den ρ
  | x, .any, _, h => by simp [AV.known] at h
  | .sym k n, .sym k' n', h, _ => by simp only [leA] at h; exact ⟨rfl, by simp [AV.den, h.1, h.2.eq]⟩
  | .int k n, .sym k' n', h, _ => by simp only [leA] at h; exact ⟨rfl, by simp [AV.den, h.1, ← h.2.eq]⟩
  | .int k n, .int k' n', h, _ => by simp only [leA] at h; exact ⟨rfl, by simp [AV.den, h.1, h.2]⟩
  | .sb b, .sb b', h, _ => by simp only [leA] at h; exact ⟨rfl, by simp [AV.den, h.eq]⟩
  | .tt, .sb b', h, _ => by simp only [leA] at h; exact ⟨rfl, by simp [AV.den, ← h.eq]⟩
  | .ff, .sb b', h, _ => by simp only [leA] at h; exact ⟨rfl, by simp [AV.den, ← h.eq]⟩
  | .tt, .tt, _, _ => ⟨rfl, rfl⟩
  | .ff, .ff, _, _ => ⟨rfl, rfl⟩
  | .nils, .nils, _, _ => ⟨rfl, rfl⟩
  | .ptr i o, .ptr i' o', h, _ => by simp only [leA] at h; exact ⟨rfl, by simp [AV.den, h.1, h.2]⟩
  | .el b o, .el b' o', h, _ => by simp only [leA] at h; exact ⟨rfl, by simp [AV.den, h.1.eq, h.2.eq]⟩
  | .slice a n c, .slice a' n' c', h, _ => by simp only [leA] at h; exact ⟨rfl, by simp [AV.den, h.1.eq, h.2.1.eq, h.2.2.eq]⟩
  | .nils, .slice a n c, h, _ => by simp only [leA] at h; exact ⟨rfl, by simp [AV.den, ← h.1.eq, ← h.2.1.eq, ← h.2.2.eq]⟩
  | .v x, .v y, h, _ => by simp only [leA] at h; exact ⟨rfl, by simp [AV.den, h.eq]⟩
  | .tup l, .tup m, h, _ => by simp only [leA] at h; exact ⟨rfl, by simp [AV.den, leSL_den h]⟩
  | .agg l, .agg m, h, _ => by simp only [leA] at h; exact ⟨rfl, by simp [AV.den, leSL_den h]⟩
  | .clo f a b, .clo g a' b', h, _ => by simp only [leA] at h; exact ⟨rfl, by simp [AV.den, h.1, leSL_den h.2.1, leSL_den h.2.2]⟩
theorem leSL_den {ρ : Nat → Nat} : ∀ {l m : List AV}, leSL l m → AV.denL ρ l = AV.denL ρ m
  | [], [], _ => rfl
  | x :: l, y :: m, h => by simp only [leSL] at h; rw [AV.denL, AV.denL, (leA_den h.2.1 h.1).2, leSL_den h.2.2]
  | [], _ :: _, h => by simp only [leSL] at h
  | _ :: _, [], h => by simp only [leSL] at h
end

theorem leA_Den {ρ : Nat → Nat} {x y : AV} {v : Value} (h : leA x y) (hd : Den ρ x v) : Den ρ y v := by
  by_cases hy : y.known = true
  · obtain ⟨h1, h2⟩ := leA_den (ρ := ρ) h hy
    rcases hd with hd | hd
    · subst hd; simp [AV.known] at h1
    · exact .inr (hd.trans h2)
  · left; cases y <;> simp [AV.known] at hy; rfl

def leT : List AV → List AV → Prop
  | [], [] => True
  | x :: l, y :: m => leA x y ∧ leT l m
  | _, _ => False

theorem leT_get : ∀ {l m : List AV}, leT l m → ∀ t, leA (l.getD t uav) (m.getD t uav)
  | [], [], _, t => by simp [uav, leA]
  | x :: l, y :: m, h, 0 => by simpa using h.1
  | x :: l, y :: m, h, t + 1 => by simpa using leT_get h.2 t
  | [], _ :: _, h, _ => h.elim
  | _ :: _, [], h, _ => h.elim

theorem leT_len : ∀ {l m : List AV}, leT l m → l.length = m.length
  | [], [], _ => rfl
  | _ :: _, _ :: _, h => by simp [leT_len h.2]
  | [], _ :: _, h => h.elim
  | _ :: _, [], h => h.elim

theorem leT_DenL {ρ : Nat → Nat} : ∀ {l m : List AV} {k : List Value}, leT l m → DenL ρ l k → DenL ρ m k
  | [], [], [], _, _ => trivial
  | _ :: _, _ :: _, _ :: _, h, hd => ⟨leA_Den h.1 hd.1, leT_DenL h.2 hd.2⟩
  | [], _ :: _, _, h, _ => h.elim
  | _ :: _, [], _, h, _ => h.elim
  | [], [], _ :: _, _, hd => hd.elim
  | _ :: _, _ :: _, [], _, hd => hd.elim

def leOb : Ob → Ob → Prop
  | _, .none => True
  | .cells T l, .cells T' l' => T = T' ∧ leT l l'
  | _, _ => False

def leO : List Ob → List Ob → Prop
  | [], [] => True
  | x :: l, y :: m => leOb x y ∧ leO l m
  | _, _ => False

theorem leO_get : ∀ {l m : List Ob}, leO l m → ∀ t, leOb (l.getD t .none) (m.getD t .none)
  | [], [], _, t => by simp [leOb]
  | x :: l, y :: m, h, 0 => by simpa using h.1
  | x :: l, y :: m, h, t + 1 => by simpa using leO_get h.2 t
  | [], _ :: _, h, _ => h.elim
  | _ :: _, [], h, _ => h.elim

theorem leO_len : ∀ {l m : List Ob}, leO l m → l.length = m.length
  | [], [], _ => rfl
  | _ :: _, _ :: _, h => by simp [leO_len h.2]
  | [], _ :: _, h => h.elim
  | _ :: _, [], h => h.elim

/-- Is each pointer's variable there? -/
def wfOb (p : Nat → Bool) : List Ob → Bool
  | [] => true
  | .none :: l => wfOb p l
  | .cells _ c :: l => AV.wfL p c && wfOb p l

def wfS (s : S) : Bool := AV.wfL s.live s.tmps && wfOb s.live s.objs

theorem wfOb_get (p : Nat → Bool) : ∀ {l : List Ob}, wfOb p l = true → ∀ i T c, l.getD i .none = .cells T c → AV.wfL p c = true
  | [], _, i, T, c, h => by simp at h
  | .none :: l, hw, 0, T, c, h => by simp at h
  | .cells T' c' :: l, hw, 0, T, c, h => by
    simp at h; obtain ⟨rfl, rfl⟩ := h
    simp only [wfOb, Bool.and_eq_true] at hw; exact hw.1
  | .none :: l, hw, i + 1, T, c, h => wfOb_get p (l := l) (by simpa [wfOb] using hw) i T c (by simpa using h)
  | .cells T' c' :: l, hw, i + 1, T, c, h => wfOb_get p (l := l) (by simp only [wfOb, Bool.and_eq_true] at hw; exact hw.2) i T c (by simpa using h)

theorem wfS_wf {s : S} (h : wfS s = true) (hl : s.objs.length = s.tmps.length) : s.WF := by
  simp only [wfS, Bool.and_eq_true] at h
  refine ⟨fun t => ?_, fun i T c hi => wfOb_get _ h.2 i T c hi, hl⟩
  have := h.1
  rw [AV.wfL_eq, List.all_eq_true] at this
  simp only [S.get, List.getD_eq_getElem?_getD]
  cases ht : s.tmps[t]? with
  | none => rfl
  | some x => exact this x (List.mem_of_getElem? ht)

/-- The state s says at least what s' says. -/
structure Le (s s' : S) : Prop where
  tmps : leT s.tmps s'.tmps
  objs : leO s.objs s'.objs
  wf : wfS s' = true
  M : s'.M.le s.M

theorem Le.gam {s s' : S} (h : Le s s') (hw : s.WF) {ρ : Nat → Nat} {a : Act} {w : World} (hg : Gam c ρ s a w) : s'.WF ∧ Gam c ρ s' a w := by
  have hob : ∀ i, leOb (s.ob i) (s'.ob i) := fun i => leO_get h.objs i
  have lv : ∀ i, s'.live i = true → s.live i = true := fun i hi => by
    have := hob i
    unfold S.live at *
    cases h1 : s'.ob i with
    | none => rw [h1] at hi; cases hi
    | cells T l =>
      rw [h1] at this
      cases h2 : s.ob i with
      | none => rw [h2] at this; exact this.elim
      | cells T' l' => rfl
  refine ⟨wfS_wf h.wf ?_, ⟨?_, fun t => leA_Den (leT_get h.tmps t) (hg.tmp t), hg.defers, Mem.on_le h.M hg.mem, fun i T l hi => ?_, fun i j hi hj => hg.inj i j (lv i hi) (lv j hj), hg.fr, fun b hb => hg.new b fun e => ?_⟩⟩
  · rw [← leO_len h.objs, ← leT_len h.tmps]; exact hw.len
  · rw [← leT_len h.tmps]; exact hg.tsz
  · have h1 := hob i
    rw [hi] at h1
    cases h2 : s.ob i with
    | none => rw [h2] at h1; exact h1.elim
    | cells T' l' =>
      rw [h2] at h1
      obtain ⟨rfl, hl⟩ := h1
      obtain ⟨cs, k1, k2, k3, k4⟩ := hg.ob i _ _ h2
      refine ⟨cs, k1, leT_DenL hl k2, ?_, k4⟩
      cases hm : s'.M (ρ i) with
      | none => rfl
      | some f => obtain ⟨g, hg', _⟩ := h.M _ f hm; rw [k3] at hg'; cases hg'
  · cases hm : s'.M b with
    | none => exact hb hm
    | some f => obtain ⟨g, hg', _⟩ := h.M b f hm; rw [e] at hg'; cases hg'

theorem OKS.weaken {stk : List It} {s s' : S} (h : OKS f c K stk s') (hle : Le s s') : OKS f c K stk s :=
  ⟨fun b cs ρ a w h1 h2 h3 h4 => let ⟨hw, hg⟩ := hle.gam h3 h4; h.ok b cs ρ a w h1 h2 hw hg⟩

/-! ### Loops -/

theorem OKS.inLoop {q : Unit → Q} {r : List It} {s : S} (h : OKS f c K (.code q :: .inLoop q :: r) s) : OKS f c K (.inLoop q :: r) s :=
  OKS.of_step (stk' := .code q :: .inLoop q :: r) (fun _ _ _ _ => step_inLoop) h

/-- A loop: a family of states at its head, a measure that each round lowers. -/
theorem OKS.loop {ι : Type} (St : ι → S) (μ : ι → Nat) (i0 : ι) {q : Unit → Q} {r : List It} {s : S} (hle : Le s (St i0))
    (h : ∀ i, (∀ j, μ j < μ i → OKS f c K (.inLoop q :: r) (St j)) → OKS f c K (.code q :: .inLoop q :: r) (St i)) : OKS f c K (.code (fun _ => .loop q) :: r) s := by
  have key : ∀ n i, μ i < n → OKS f c K (.code q :: .inLoop q :: r) (St i) := by
    intro n
    induction n with
    | zero => intro i hi; omega
    | succ n ih => intro i hi; exact h i fun j hj => (ih j (by omega)).inLoop
  refine OKS.weaken (OKS.of_step (stk' := .code q :: .inLoop q :: r) (fun _ _ _ _ => step_loop) (key _ i0 (Nat.lt_succ_self _))) hle

end
end Go.SX

/- Functions and their code; how loops are begun. -/
namespace Go.SX
open Go.RowKit (Below)

/-- Function number f has this code, these results and so many temporaries. -/
structure FnOk (f : Nat) (q : Unit → Q) (rs : List ResultVar) (n : Nat) : Prop where
  fn : ∃ fn : Func, PR.funcs[f]? = some fn ∧ (∀ args w, (callFunc f args).run PR w = .ok (.enter f args) w) ∧ fn.body = some (q ()).code ∧ fn.results.toList = rs ∧ fn.ntmps = n
  ord : (q ()).ok = true

theorem FnOk.of {f : Nat} {q : Unit → Q} {rs : List ResultVar} {n : Nat} (fn : Func) (h1 : Go.Proofs.Try.prog.funcs[f]? = some fn)
    (h2 : ∀ args w, (callFunc f args).run Go.Proofs.Try.prog w = .ok (.enter f args) w) (h3 : fn.body = some (q ()).code) (h4 : fn.results.toList = rs) (h5 : fn.ntmps = n) (h6 : (q ()).ok = true) : FnOk f q rs n :=
  ⟨⟨fn, by rw [PR_eq]; exact h1, by rw [PR_eq]; exact h2, h3, h4, h5⟩, h6⟩

/-- **A function's contract**, by the executor. -/
theorem FnOk.specU {f : Nat} {q : Unit → Q} {rs : List ResultVar} {n : Nat} (h : FnOk f q rs n) (fuel : Nat) (ps : List AV) {args : Array Value} {M : Mem} {L : Nat → Bool} {Post : Nat → Mem → Value → Prop}
    (ha : AV.vals ps = args) (hps : (AV.groundL ps && decide (ps.length ≤ n)) = true)
    (hr : ∀ (c : Ct) (K : S → AV → Prop), KOk c M L Post K → run rs f c K fuel [.code q] (entry ps n M)) : SpecU f args M L Post := by
  obtain ⟨fn, h1, h2, h3, h4, h5⟩ := h.fn
  simp only [Bool.and_eq_true, decide_eq_true_eq] at hps
  subst h5
  subst ha
  exact SpecU.of_run fuel h1 h2 h3 h4 h.ord hps.1 hps.2 hr

theorem FnOk.spec {f : Nat} {q : Unit → Q} {rs : List ResultVar} {n : Nat} (h : FnOk f q rs n) (fuel : Nat) (ps : List AV) {args : Array Value} {M : Mem} {Post : Nat → Mem → Value → Prop}
    (ha : AV.vals ps = args) (hps : (AV.groundL ps && decide (ps.length ≤ n)) = true)
    (hr : ∀ (c : Ct) (K : S → AV → Prop), KOk c M noL Post K → run rs f c K fuel [.code q] (entry ps n M)) : Spec f args M Post := h.specU fuel ps ha hps hr

theorem FnOk.pure {f : Nat} {q : Unit → Q} {rs : List ResultVar} {n : Nat} (h : FnOk f q rs n) (fuel : Nat) (ps : List AV) {args : Array Value} {M : Mem} {v : Value}
    (ha : AV.vals ps = args) (hps : (AV.groundL ps && decide (ps.length ≤ n)) = true)
    (hr : ∀ (c : Ct) (K : S → AV → Prop), KOk c M noL (fun _ M' v' => M' = M ∧ v' = v) K → run rs f c K fuel [.code q] (entry ps n M)) : Pure1 f args M v := h.specU fuel ps ha hps hr

/-- Going on from a place in the code by the executor. -/
theorem FnOk.go {f : Nat} {q : Unit → Q} {rs : List ResultVar} {n : Nat} (h : FnOk f q rs n) (fuel : Nat) {c : Ct} {K : S → AV → Prop} {stk : List It} {s : S}
    (ho : stk.all itOk = true) (hr : run rs f c K fuel stk s) : OKS f c K stk s := by
  obtain ⟨fn, h1, _, _, h4, _⟩ := h.fn
  exact run_sound h1 h4 fuel stk s ho hr

/-- A region's operations. -/
def opsOf (id : Nat) : Code → Option (List Oper)
  | .region i ops _ => if i = id then some ops.toList else none
  | .seq a b => match opsOf id a with | some l => some l | none => opsOf id b
  | .cond _ a b => match opsOf id a with | some l => some l | none => opsOf id b
  | .block _ b => opsOf id b
  | .loop b => opsOf id b
  | _ => none
def opsIn (id : Nat) (fn : Func) : List Oper := ((opsOf id ((fn.body).getD .skip))).getD []

/-! ### Loops -/

/-- The temporaries that a piece of code sets. -/
def setsO (ops : List Oper) : List Nat := ops.filterMap (·.dst)
def setsQ : Q → List Nat
  | .region _ ops _ _ _ _ => setsO (ops ())
  | .seq a b => setsQ (a ()) ++ setsQ (b ())
  | .cond _ a b => setsQ (a ()) ++ setsQ (b ())
  | .block _ b => setsQ (b ())
  | .loop b => setsQ (b ())
  | .stop q => setsQ (q ())
  | _ => []

def havoc : List Nat → S → S
  | [], s => s
  | t :: l, s => havoc l { s with tmps := s.tmps.set t .any }

def setT : List (Nat × AV) → S → S
  | [], s => s
  | (t, x) :: l, s => setT l { s with tmps := s.tmps.set t x }

def setO : List (Nat × Ob) → S → S
  | [], s => s
  | (i, o) :: l, s => setO l (s.setOb i o)

/-- The states at a loop's head: what the loop sets is unknown, but for some temporaries; some local variables; the memory. -/
def headS (q : Unit → Q) (s : S) (ts : List (Nat × AV)) (os : List (Nat × Ob)) (M : Mem) : S := (setO os (setT ts (havoc (setsQ (q ())) s))).withM M

theorem OKS.loopH {f : Nat} {c : Ct} {K : S → AV → Prop} {q : Unit → Q} {r : List It} {s : S} {ι : Type} (Inv : ι → Prop) (ts : ι → List (Nat × AV)) (os : ι → List (Nat × Ob)) (Mf : ι → Mem) (μ : ι → Nat) (i0 : ι) (h0 : Inv i0)
    (hle : Le s (headS q s (ts i0) (os i0) (Mf i0)))
    (h : ∀ i, Inv i → (∀ j, Inv j → μ j < μ i → ∀ s', Le s' (headS q s (ts j) (os j) (Mf j)) → OKS f c K (.inLoop q :: r) s') → OKS f c K (.code q :: .inLoop q :: r) (headS q s (ts i) (os i) (Mf i))) :
    OKS f c K (.code (fun _ => .loop q) :: r) s :=
  OKS.loop (ι := { i : ι // Inv i }) (fun i => headS q s (ts i.1) (os i.1) (Mf i.1)) (fun i => μ i.1) ⟨i0, h0⟩ hle fun i hi => h i.1 i.2 fun j hj hlt _ hle' => OKS.weaken (hi ⟨j, hj⟩ hlt) hle'

/-- The same, with the way out told once. -/
theorem OKS.loopX {f : Nat} {c : Ct} {K : S → AV → Prop} {q q1 : Unit → Q} {id : Nat} {r : List It} {s : S} {ι κ : Type} (Inv : ι → Prop) (ts : ι → List (Nat × AV)) (os : ι → List (Nat × Ob)) (Mf : ι → Mem) (μ : ι → Nat) (i0 : ι) (h0 : Inv i0)
    (hle : Le s (headS q s (ts i0) (os i0) (Mf i0))) (InvX : κ → Prop) (tsX : κ → List (Nat × AV)) (osX : κ → List (Nat × Ob)) (MX : κ → Mem)
    (hx : ∀ k, InvX k → OKS f c K (.code q1 :: r) (headS q s (tsX k) (osX k) (MX k)))
    (h : ∀ i, Inv i → (∀ j, Inv j → μ j < μ i → ∀ s', Le s' (headS q s (ts j) (os j) (Mf j)) → OKS f c K (.inLoop q :: .inBlock id :: .code (fun _ => .stop q1) :: r) s') →
      (∀ k, InvX k → ∀ s', Le s' (headS q s (tsX k) (osX k) (MX k)) → OKS f c K (.code q1 :: r) s') → OKS f c K (.code q :: .inLoop q :: .inBlock id :: .code (fun _ => .stop q1) :: r) (headS q s (ts i) (os i) (Mf i))) :
    OKS f c K (.code (fun _ => .loop q) :: .inBlock id :: .code q1 :: r) s :=
  OKS.congr (stk' := .code (fun _ => .loop q) :: .inBlock id :: .code (fun _ => .stop q1) :: r) rfl
    (OKS.loopH Inv ts os Mf μ i0 h0 hle fun i hi ih => h i hi ih fun k hk _ hle' => OKS.weaken (hx k hk) hle')

/-- Two ways that come together. -/
theorem OKS.cut {f : Nat} {c : Ct} {K : S → AV → Prop} {q0 q1 : Unit → Q} {r : List It} {s : S} {κ : Type} (InvX : κ → Prop) (tsX : κ → List (Nat × AV)) (osX : κ → List (Nat × Ob)) (MX : κ → Mem)
    (hx : ∀ k, InvX k → OKS f c K (.code q1 :: r) (headS q0 s (tsX k) (osX k) (MX k)))
    (h : (∀ k, InvX k → ∀ s', Le s' (headS q0 s (tsX k) (osX k) (MX k)) → OKS f c K (.code q1 :: r) s') → OKS f c K (.code q0 :: .code (fun _ => .stop q1) :: r) s) : OKS f c K (.code q0 :: .code q1 :: r) s :=
  OKS.congr (stk' := .code q0 :: .code (fun _ => .stop q1) :: r) rfl (h fun k hk _ hle' => OKS.weaken (hx k hk) hle')

end Go.SX

/- Memory that a call makes and reads: append, stores, local variables that are handed on; how data lie in memory. -/
namespace Go.SX

/-! ### Rows of one's own -/

section
variable {c : Ct} {M : Mem}

/-- A slice over a row that the call made: the row's first cells are those of the slice. -/
structure Own (c : Ct) (M : Mem) (e sz : Nat) (a : Option Addr) (n cap : Nat) (xs : List Value) : Prop where
  len : xs.length = n * sz
  row : (a = none ∧ n = 0 ∧ cap = 0) ∨ ∃ g, a = some ⟨g, 0, none⟩ ∧ (c.B0 ≤ g ∨ c.lent g = true) ∧ M g = some (.row e (cap * sz) xs) ∧ n ≤ cap ∧ cap ≤ maxLen

theorem Own.nil (c : Ct) (M : Mem) (e sz : Nat) : Own c M e sz none 0 0 [] := ⟨by simp, .inl ⟨rfl, rfl, rfl⟩⟩

/-- What a new end of an own row leaves as it was. -/
structure Grows (c : Ct) (a a' : Option Addr) (M M' : Mem) : Prop where
  le : M.le M'
  keep : ∀ b, M b ≠ none → (∀ g, a = some ⟨g, 0, none⟩ → b ≠ g) → M' b = M b
  new : ∀ b, M' b ≠ none → M b ≠ none ∨ c.B0 ≤ b
  at_ : a' = a ∨ ∃ g, a' = some ⟨g, 0, none⟩ ∧ M g = none ∧ c.B0 ≤ g

theorem on_row {M : Mem} {w : World} (hm : M.on w) {g T N : Nat} {xs : List Value} (h : M g = some (.row T N xs)) : ∃ r, w.heap[g]? = some (.cells (xs ++ r).toArray T (0, 0)) ∧ (xs ++ r).length = N := hm g _ h

theorem CellsAt.on {M : Mem} {w : World} (hm : M.on w) : ∀ {l : List Value} {b o : Nat}, CellsAt M b o l → ∀ j v, l[j]? = some v → w.cell? ((⟨b, o, none⟩ : Addr).add j) = some v := fun {l b o} h j v hj => by
  rw [addr_add]; exact Mem.cell_on hm (h.get hj)

theorem bApp {t : Nat} {v1 v2 v : Value} {w w' : World} (h : (Builtin.append_ #[t, t] 0 #[v1, v2]).run PR w = .ok v w') : (builtin .append [t, t].toArray 0 #[] #[v1, v2]).run PR w = .ok (.value v) w' := by
  simp [builtin, h]

theorem AppS.own {up : Bool} {t e : Nat} {ti ei : TI} (ht : TB.ty t = some ti) (hk : ti.k = .slice e) (he : TB.ty e = some ei) (_hsz : 0 < ei.size) (hzl : ei.zero.length = ei.size)
    {x y : AV} {p : Mem → AV → Prop} {a : Option Addr} {n cap : Nat} {xs : List Value} (hx : x.val = .slice a n cap) (hown : Own c M e ei.size a n cap xs)
    {b o m k : Nat} {news : List Value} (hy : y.val = .slice (some ⟨b, o, none⟩) m k) (hnews : CellsAt M b o news) (hl : news.length = m * ei.size) (h1 : ∀ u ∈ news, u.oneCell' = true)
    (h63 : n + m ≤ maxLen) (hby : (n + m) * ei.bytes ≤ 140737488355328)
    (hp : ∀ M' a' cap', Own c M' e ei.size a' (n + m) cap' (xs ++ news) → Grows c a a' M M' → p M' (.slice (fun _ => a') (fun _ => n + m) (fun _ => cap'))) : AppS c up [t, t] [x, y] M p := by
  have hty := tb_ok.ty t ti ht
  have hey := tb_ok.ty e ei he
  obtain ⟨d, hd, hdk⟩ := hty.und'
  rw [hk] at hdk
  have hd := hd.trans (tk_slice hdk)
  obtain ⟨i, z, hi, hisz, hiby, hiz, hzc⟩ := hey.info'
  have hzs : z.cells.size = ei.size := by rw [← Array.length_toList, hzc, denL_length, hzl]
  refine ⟨fun w hm hB => ?_⟩
  have hvals : AV.vals [x, y] = #[.slice a n cap, .slice (some ⟨b, o, none⟩) m k] := by rw [← hx, ← hy]; rfl
  have hsmall : n + m ≤ 9223372036854775807 := by simp only [maxLen] at h63; omega
  have hncells := CellsAt.on hm hnews
  have hlen : (xs ++ news).length = (n + m) * ei.size := by rw [List.length_append, hown.len, hl, Nat.add_mul]
  have grown : ∀ (old : Nat) (oldl : List Value), oldl = xs → old < n + m →
      (∀ res, (Builtin.append_ #[t, t] 0 #[.slice a n cap, .slice (some ⟨b, o, none⟩) m k]).run PR w = res →
        res = .ok (.slice (some ⟨w.heap.size, 0, none⟩) (n + m) (grownCap w (n + m) old e)) (w.drew.alloc (.cells (oldl.toArray ++ news.toArray ++ Builtin.zeroCells z.cells (grownCap w (n + m) old e - (n + m))) e)) →
        ResV PR (fun v w' => ∃ M' r, v = r.val ∧ r.ground = true ∧ Grow c up M w M' w' ∧ p M' r) ((builtin .append [t, t].toArray 0 #[] (AV.vals [x, y])).run PR w)) := by
    intro old oldl ho hlt res hr hres
    subst ho
    rw [hres] at hr
    rw [hvals, bApp hr]
    have hge := grownCap_ge w (n + m) old e
    have hcm := grownCap_le_maxLen w (n + m) old e h63
    have hfr : M w.heap.size = none := by
      cases hmm : M w.heap.size with
      | none => rfl
      | some f => exact absurd (mem_lt hm (b := w.heap.size) (by rw [hmm]; simp)) (Nat.lt_irrefl _)
    have hon : Frag.on (.row e (grownCap w (n + m) old e * ei.size) (oldl ++ news)) (some (.cells (oldl.toArray ++ news.toArray ++ Builtin.zeroCells z.cells (grownCap w (n + m) old e - (n + m))) e)) := by
      refine ⟨(Builtin.zeroCells z.cells (grownCap w (n + m) old e - (n + m))).toList, ?_, ?_⟩
      · congr 2
        apply Array.ext'
        simp
      · rw [List.length_append, hlen, Array.length_toList, size_zeroCells, hzs, ← Nat.add_mul]
        congr 1
        omega
    have hgr : Grow c up M w (M.set w.heap.size (.row e (grownCap w (n + m) old e * ei.size) (oldl ++ news))) (w.drew.alloc (.cells (oldl.toArray ++ news.toArray ++ Builtin.zeroCells z.cells (grownCap w (n + m) old e - (n + m))) e)) := by
      refine ⟨fun _ => Mem.le_set hfr, Mem.on_set (Mem.on_alloc (w := w.drew) (fun b f hb => hm b f hb) _) (by rw [show w.heap.size = w.drew.heap.size from rfl, heap_alloc_self]; exact hon), rfl, rfl, rfl, fun a => (froz_alloc w.drew (frozAt_row hon) a).trans rfl, by simp, fun b hb _ => heap_alloc_lt w.drew _ hb, fun b hb => ?_⟩
      unfold Mem.set at hb
      by_cases e' : b = w.heap.size
      · exact .inr (by omega)
      · rw [if_neg e'] at hb; exact .inl hb
    refine ⟨_, .slice (fun _ => some ⟨w.heap.size, 0, none⟩) (fun _ => n + m) (fun _ => grownCap w (n + m) old e), rfl, rfl, hgr, hp _ _ _ ⟨hlen, .inr ⟨w.heap.size, rfl, .inl hB, by simp [Mem.set], hge, hcm⟩⟩ ⟨Mem.le_set hfr, fun b hb _ => ?_, fun b hb => ?_, .inr ⟨_, rfl, hfr, hB⟩⟩⟩
    · have : b ≠ w.heap.size := fun e' => by subst e'; exact hb hfr
      simp [Mem.set, this]
    · rcases hgr.fresh b hb with h' | h'
      · exact .inl h'
      · exact .inr (Nat.le_trans hB h')
  rcases hown.row with ⟨rfl, rfl, rfl⟩ | ⟨g, rfl, hgB, hgM, hnc, hcm⟩
  · have hxs : xs = [] := List.eq_nil_of_length_eq_zero (by simpa using hown.len)
    by_cases hm0 : m = 0
    · subst hm0
      have hn : news = [] := List.eq_nil_of_length_eq_zero (by simpa using hl)
      have hr : (Builtin.append_ #[t, t] 0 #[.slice none 0 0, .slice (some ⟨b, o, none⟩) 0 k]).run PR w = .ok (.slice none 0 0) w := by
        simp [Builtin.append_, run_underlying hd, sizeOf, typeInfo, hi, Builtin.lenOf, Builtin.firstCells, loadCells, loadCellsFrom]
      rw [hvals]; dsimp only; rw [bApp hr]
      refine ⟨M, .slice (fun _ => none) (fun _ => 0) (fun _ => 0), rfl, rfl, ⟨fun _ => Mem.le_refl _, hm, rfl, rfl, rfl, fun _ => rfl, Nat.le_refl _, fun _ _ _ => rfl, fun b hb => .inl hb⟩, ?_⟩
      subst hxs; subst hn
      exact hp M none 0 (Own.nil ..) ⟨Mem.le_refl _, fun _ _ _ => rfl, fun b hb => .inl hb, .inl rfl⟩
    · refine grown 0 [] hxs.symm (by omega) _ rfl ?_
      have hr := run_append_nil (P := PR) w t 0 e i z hd hi hiz ⟨b, o, none⟩ m k news (by rw [hisz]; exact hl) hncells (by omega) (by omega) (by rw [hiby]; have := hby; simp only [Nat.zero_add] at this; omega)
      simpa using hr
  · obtain ⟨rr, hw, hwl⟩ := on_row hm hgM
    by_cases hroom : n + m ≤ cap
    · have hfit : n * i.size + news.length ≤ (xs ++ rr).toArray.size := by rw [List.size_toArray, hwl, hl, hisz, ← Nat.add_mul]; exact Nat.mul_le_mul_right _ hroom
      have hr := run_append_room (P := PR) w t 0 e i hd hi g n cap _ hw ⟨b, o, none⟩ m k news (by rw [hisz]; exact hl) hncells h1 hroom hfit
      rw [hvals]; dsimp only; rw [bApp hr]
      have htake : (xs ++ rr).take (n * i.size) = xs := by rw [hisz, ← hown.len]; exact List.take_left
      have hdrop : (xs ++ rr).drop (n * i.size + news.length) = rr.drop news.length := by rw [hisz, ← hown.len, ← List.drop_drop, List.drop_left]
      have hon : Frag.on (.row e (cap * ei.size) (xs ++ news)) ((w.setRow g ((xs ++ rr).toArray.toList.take (n * i.size) ++ news ++ (xs ++ rr).toArray.toList.drop (n * i.size + news.length)).toArray).heap[g]?) := by
        refine ⟨rr.drop news.length, ?_, ?_⟩
        · rw [setRow_heap w g _ _ e _ hw, htake, hdrop]
        · rw [List.length_append, List.length_append, List.length_drop]
          rw [List.length_append] at hwl
          rw [List.size_toArray, List.length_append, hisz, ← hown.len] at hfit
          omega
      have hgr : M.le (M.set g (.row e (cap * ei.size) (xs ++ news))) := fun b' f hb' => by
        by_cases e' : b' = g
        · subst e'; rw [hgM] at hb'; cases hb'; exact ⟨.row e (cap * ei.size) (xs ++ news), by simp [Mem.set], rfl, rfl, news, rfl⟩
        · exact ⟨f, by simp [Mem.set, e', hb'], f.le_refl⟩
      refine ⟨M.set g (.row e (cap * ei.size) (xs ++ news)), .slice (fun _ => some ⟨g, 0, none⟩) (fun _ => n + m) (fun _ => cap), rfl, rfl, ⟨fun _ => hgr, fun b' f hb' => ?_, rfl, rfl, rfl, fun a => froz_of (b := g) (fun k hk => setRow_other w g k _ hk) (frozAt_row hon) (fun off => by rw [hw]; exact frozAt_z off) a, by simp, fun b' hb' ho => ?_, fun b' hb' => ?_⟩, hp _ _ _ ⟨hlen, .inr ⟨g, rfl, hgB, by simp [Mem.set], hroom, hcm⟩⟩ ⟨hgr, fun b' hb' hne => ?_, fun b' hb' => ?_, .inl rfl⟩⟩
      · unfold Mem.set at hb'
        by_cases e' : b' = g
        · subst e'; simp at hb'; subst hb'; exact hon
        · rw [if_neg e'] at hb'; rw [setRow_other w g b' _ e']; exact hm b' f hb'
      · refine setRow_other w g b' _ fun e' => ?_
        subst e'
        rcases ho with ho | ho
        · rw [hgM] at ho; cases ho
        · obtain ⟨o1, o2⟩ := ho
          rcases hgB with hgB | hgB
          · omega
          · rw [hgB] at o2; cases o2
      · unfold Mem.set at hb'
        by_cases e' : b' = g
        · subst e'; left; rw [hgM]; simp
        · rw [if_neg e'] at hb'; exact .inl hb'
      · have := hne g rfl
        simp [Mem.set, this]
      · unfold Mem.set at hb'
        by_cases e' : b' = g
        · subst e'; left; rw [hgM]; simp
        · rw [if_neg e'] at hb'; exact .inl hb'
    · refine grown cap xs rfl (by omega) _ rfl ?_
      have holds : ∀ j u, xs[j]? = some u → w.cell? ((⟨g, 0, none⟩ : Addr).add j) = some u := fun j u hj => by
        rw [addr_add, cell_of_row w g (0 + j) _ e (0, 0) hw]
        have hlt := (List.getElem?_eq_some_iff.1 hj).1
        simp [List.getElem?_append_left hlt, hj]
      exact run_append_grow (P := PR) w t 0 e i z hd hi hiz ⟨g, 0, none⟩ n cap xs (by rw [hisz]; exact hown.len) holds ⟨b, o, none⟩ m k news (by rw [hisz]; exact hl) hncells (by omega) (by omega) (growslice_fits (by omega) (by rw [hiby]; exact hby))

/-- append of nothing. -/
theorem AppS.none {up : Bool} {t e : Nat} {ti ei : TI} (ht : TB.ty t = some ti) (hk : ti.k = .slice e) (he : TB.ty e = some ei)
    {x y : AV} {p : Mem → AV → Prop} {a : Option Addr} {n cap : Nat} {xs : List Value} (hx : x.val = .slice a n cap) (hown : Own c M e ei.size a n cap xs) {ya : Option Addr} {yc : Nat} (hy : y.val = .slice ya 0 yc) (hyc : ya = Option.none → yc = 0)
    (hp : p M (.slice (fun _ => a) (fun _ => n) (fun _ => cap))) : AppS c up [t, t] [x, y] M p := by
  have hty := tb_ok.ty t ti ht
  have hey := tb_ok.ty e ei he
  obtain ⟨d, hd, hdk⟩ := hty.und'
  rw [hk] at hdk
  have hd := hd.trans (tk_slice hdk)
  obtain ⟨i, z, hi, hisz, hiby, hiz, hzc⟩ := hey.info'
  refine ⟨fun w hm hB => ?_⟩
  have hvals : AV.vals [x, y] = #[.slice a n cap, .slice ya 0 yc] := by rw [← hx, ← hy]; rfl
  have hr : (Builtin.append_ #[t, t] 0 #[.slice a n cap, .slice ya 0 yc]).run PR w = .ok (.slice a n cap) w := by
    cases ya with
    | none =>
      rw [hyc rfl]
      rcases hown.row with ⟨rfl, rfl, rfl⟩ | ⟨g, rfl, hgB, hgM, hnc, hcm⟩
      · simp [Builtin.append_, run_underlying hd, sizeOf, typeInfo, hi, Builtin.lenOf, Builtin.firstCells]
      · simp [Builtin.append_, run_underlying hd, sizeOf, typeInfo, hi, Builtin.lenOf, Builtin.firstCells, hnc, storeCells]
    | some ya =>
      rcases hown.row with ⟨rfl, rfl, rfl⟩ | ⟨g, rfl, hgB, hgM, hnc, hcm⟩
      · simp [Builtin.append_, run_underlying hd, sizeOf, typeInfo, hi, Builtin.lenOf, Builtin.firstCells, loadCells, loadCellsFrom]
      · simp [Builtin.append_, run_underlying hd, sizeOf, typeInfo, hi, Builtin.lenOf, Builtin.firstCells, hnc, storeCells, loadCells, loadCellsFrom]
  rw [hvals]; dsimp only; rw [bApp hr]
  exact ⟨M, .slice (fun _ => a) (fun _ => n) (fun _ => cap), rfl, rfl, ⟨fun _ => Mem.le_refl _, hm, rfl, rfl, rfl, fun _ => rfl, Nat.le_refl _, fun _ _ _ => rfl, fun b hb => .inl hb⟩, hp⟩

end
end Go.SX

/- Stores into memory; local variables that are handed on; how lists lie in memory. -/
namespace Go.SX

section
variable {c : Ct} {M : Mem}

/-! ### Stores -/

theorem store_row {b o : Nat} {T : Nat} {vs cs r : List Value} {w : World} (hw : w.heap[b]? = some (.cells (cs ++ r).toArray T (0, 0))) (ho : o + vs.length ≤ cs.length) (h1 : ∀ v ∈ vs, v.oneCell' = true) :
    ∃ w', (storeCells ⟨b, o, none⟩ vs).run PR w = .ok () w' ∧ w'.heap[b]? = some (.cells (spliceV cs o vs ++ r).toArray T (0, 0)) ∧ w'.os = w.os ∧ w'.tape = w.tape ∧ w'.output = w.output ∧ w'.heap.size = w.heap.size ∧ ∀ k, k ≠ b → w'.heap[k]? = w.heap[k]? := by
  have h := run_storeCells_at PR b o T vs 0 _ w hw (by simp; omega) h1
  refine ⟨_, h, ?_, rfl, rfl, rfl, by simp, fun k hk => setRow_other w b k _ hk⟩
  rw [setRow_heap w b _ _ T _ hw]
  congr 2
  have e1 : (cs ++ r).take (o + 0) = cs.take o := by rw [Nat.add_zero, List.take_append_of_le_length (by omega)]
  have e2 : (cs ++ r).drop (o + 0 + vs.length) = cs.drop (o + vs.length) ++ r := by rw [Nat.add_zero, List.drop_append_of_le_length (by omega)]
  simp only [e1, e2, spliceV, List.append_assoc]

theorem Grow.write {M : Mem} {b : Nat} {f f' : Frag} {w w' : World} (hm : M.on w) (hM : M b = some f) (hB : c.B0 ≤ b ∨ c.lent b = true) (hon : f'.on w'.heap[b]?) (h1 : w'.os = w.os) (h2 : w'.tape = w.tape) (h3 : w'.output = w.output) (h4 : w'.heap.size = w.heap.size) (hz : ∀ off, frozAt w.heap[b]? off = false) (hz' : ∀ off, frozAt w'.heap[b]? off = false)
    (h5 : ∀ k, k ≠ b → w'.heap[k]? = w.heap[k]?) : Grow c true M w (M.set b f') w' := by
  refine ⟨(fun e => by cases e), fun k g hk => ?_, h1, h2, h3, froz_of h5 hz' hz, by omega, fun k hk ho => h5 k fun e => ?_, fun k hk => ?_⟩
  · unfold Mem.set at hk
    by_cases e : k = b
    · subst e; simp at hk; subst hk; exact hon
    · rw [if_neg e] at hk; rw [h5 k e]; exact hm k g hk
  · subst e
    rcases ho with ho | ho
    · rw [hM] at ho; cases ho
    · obtain ⟨o1, o2⟩ := ho
      rcases hB with hB | hB
      · omega
      · rw [hB] at o2; cases o2
  · unfold Mem.set at hk
    by_cases e : k = b
    · subst e; left; rw [hM]; simp
    · rw [if_neg e] at hk; exact .inl hk

theorem ones_den {l : List AV} (h : l.all AV.one = true) : ∀ v ∈ AV.denL (fun _ => 0) l, v.oneCell' = true := fun v hv => by
  rw [AV.denL_eq] at hv
  obtain ⟨x, hx, rfl⟩ := List.mem_map.1 hv
  exact one_den (List.all_eq_true.1 h x hx)

theorem StoreS.row {b o : Unit → Nat} {l : List AV} {p : Mem → Prop} {T N : Nat} {cs : List Value} (hM : M (b ()) = some (.row T N cs)) (hB : c.B0 ≤ b () ∨ c.lent (b ()) = true) (ho : o () + l.length ≤ cs.length) (h1 : l.all AV.one = true)
    (hp : p (M.set (b ()) (.row T N (spliceV cs (o ()) (AV.denL (fun _ => 0) l))))) : StoreS c b o l M p := by
  refine ⟨_, fun w hm _ => ?_, hp⟩
  obtain ⟨r, hw, hr⟩ := on_row hm hM
  have hlen : o () + (AV.denL (fun _ => 0) l).length ≤ cs.length := by rw [denL_length]; exact ho
  obtain ⟨w', k1, k2, k3, k4, k5, k6, k7⟩ := store_row hw hlen (ones_den h1)
  refine ⟨w', k1, Grow.write hm hM hB ⟨r, k2, ?_⟩ k3 k4 k5 k6 (fun off => by rw [hw]; exact frozAt_z off) (fun off => by rw [k2]; exact frozAt_z off) k7⟩
  rw [List.length_append, length_spliceV hlen, ← List.length_append]; exact hr

theorem StoreS.obj {b o : Unit → Nat} {l : List AV} {p : Mem → Prop} {T : Nat} {cs : List Value} (hM : M (b ()) = some (.obj (.cells cs.toArray T (0, 0)))) (hB : c.B0 ≤ b () ∨ c.lent (b ()) = true) (ho : o () + l.length ≤ cs.length) (h1 : l.all AV.one = true)
    (hp : p (M.set (b ()) (.obj (.cells (spliceV cs (o ()) (AV.denL (fun _ => 0) l)).toArray T (0, 0))))) : StoreS c b o l M p := by
  refine ⟨_, fun w hm _ => ?_, hp⟩
  have hw : w.heap[b ()]? = some (.cells (cs ++ []).toArray T (0, 0)) := by rw [List.append_nil]; exact hm _ _ hM
  have hlen : o () + (AV.denL (fun _ => 0) l).length ≤ cs.length := by rw [denL_length]; exact ho
  obtain ⟨w', k1, k2, k3, k4, k5, k6, k7⟩ := store_row hw hlen (ones_den h1)
  rw [List.append_nil] at k2
  exact ⟨w', k1, Grow.write hm hM hB k2 k3 k4 k5 k6 (fun off => by rw [hw]; exact frozAt_z off) (fun off => by rw [k2]; exact frozAt_z off) k7⟩

/-! ### A local variable becomes memory -/

mutual
def sealA (id b : Nat) : AV → AV
  | .ptr i off => if i = id then .el (fun _ => b) (fun _ => off) else .ptr i off
  | .tup l => .tup (sealL id b l)
  | .agg l => .agg (sealL id b l)
  | .clo f x y => .clo f (sealL id b x) (sealL id b y)
  | .any => .any
  | .v x => .v x
  | .tt => .tt
  | .ff => .ff
  | .sb x => .sb x
  | .int k n => .int k n
  | .sym k n => .sym k n
  | .el x y => .el x y
  | .slice a n k => .slice a n k
  | .nils => .nils
def sealL (id b : Nat) : List AV → List AV
  | [] => []
  | x :: l => sealA id b x :: sealL id b l
end

theorem sealL_eq (id b : Nat) (l : List AV) : sealL id b l = l.map (sealA id b) := by
  induction l with
  | nil => rfl
  | cons x l ih => simp [sealL, ih]

mutual
theorem sealA_den {id b : Nat} {ρ : Nat → Nat} (h : ρ id = b) : ∀ x : AV, (sealA id b x).den ρ = x.den ρ
  | .ptr i off => by
    simp only [sealA]
    split
    · rename_i e; subst e; simp [AV.den, h]
    · rfl
  | .tup l => by simp only [sealA, AV.den, sealL_den h l]
  | .agg l => by simp only [sealA, AV.den, sealL_den h l]
  | .clo f x y => by simp only [sealA, AV.den, sealL_den h x, sealL_den h y]
  | .any | .v _ | .tt | .ff | .sb _ | .int _ _ | .sym _ _ | .el _ _ | .slice _ _ _ | .nils => by simp only [sealA]
theorem sealL_den {id b : Nat} {ρ : Nat → Nat} (h : ρ id = b) : ∀ l : List AV, AV.denL ρ (sealL id b l) = AV.denL ρ l
  | [] => rfl
  | x :: l => by simp only [sealL, AV.denL, sealA_den h x, sealL_den h l]
end

mutual
theorem sealA_wf {id b : Nat} {p q : Nat → Bool} (h : ∀ i, p i = true → i ≠ id → q i = true) : ∀ x : AV, x.wf p = true → (sealA id b x).wf q = true
  | .ptr i off, hx => by
    simp only [sealA]
    split
    · rfl
    · rename_i e; simp only [AV.wf] at hx ⊢; exact h i hx e
  | .tup l, hx => by simp only [sealA, AV.wf] at hx ⊢; exact sealL_wf h l hx
  | .agg l, hx => by simp only [sealA, AV.wf] at hx ⊢; exact sealL_wf h l hx
  | .clo f x y, hx => by
    simp only [sealA, AV.wf, Bool.and_eq_true] at hx ⊢
    exact ⟨sealL_wf h x hx.1, sealL_wf h y hx.2⟩
  | .any, _ | .v _, _ | .tt, _ | .ff, _ | .sb _, _ | .int _ _, _ | .sym _ _, _ | .el _ _, _ | .slice _ _ _, _ | .nils, _ => rfl
theorem sealL_wf {id b : Nat} {p q : Nat → Bool} (h : ∀ i, p i = true → i ≠ id → q i = true) : ∀ l : List AV, AV.wfL p l = true → AV.wfL q (sealL id b l) = true
  | [], _ => rfl
  | x :: l, hx => by
    simp only [sealL, AV.wfL, Bool.and_eq_true] at hx ⊢
    exact ⟨sealA_wf h x hx.1, sealL_wf h l hx.2⟩
end

theorem sealA_any {id b : Nat} {x : AV} (h : sealA id b x ≠ .any) : x ≠ .any := fun e => by subst e; exact h rfl

theorem sealA_Den {id b : Nat} {ρ : Nat → Nat} (h : ρ id = b) {x : AV} {v : Value} (hd : Den ρ x v) : Den ρ (sealA id b x) v := by
  rcases hd with hd | hd
  · left; rw [hd]; rfl
  · right; rw [sealA_den h]; exact hd

theorem sealL_DenL {id b : Nat} {ρ : Nat → Nat} (h : ρ id = b) : ∀ {l : List AV} {k : List Value}, DenL ρ l k → DenL ρ (sealL id b l) k
  | [], [], _ => trivial
  | _ :: _, _ :: _, hd => ⟨sealA_Den h hd.1, sealL_DenL h hd.2⟩
  | [], _ :: _, hd => hd.elim
  | _ :: _, [], hd => hd.elim

def sealO (id b : Nat) : Ob → Ob
  | .none => .none
  | .cells T l => .cells T (sealL id b l)

/-- Local variable id is memory block b, which holds l. -/
def sealS (id b T : Nat) (l : List AV) (s : S) : S :=
  ⟨sealL id b s.tmps, (s.objs.map (sealO id b)).set id .none, s.M.set b (.obj (.cells (AV.vals l) T (0, 0)))⟩

theorem sealS_get (id b T : Nat) (l : List AV) (s : S) (t : Nat) : (sealS id b T l s).get t = sealA id b (s.get t) := by
  simp only [S.get, sealS, sealL_eq, List.getD_eq_getElem?_getD, List.getElem?_map]
  cases s.tmps[t]? <;> rfl

theorem sealS_ob (id b T : Nat) (l : List AV) (s : S) (i : Nat) : (sealS id b T l s).ob i = if i = id then .none else sealO id b (s.ob i) := by
  simp only [S.ob, sealS, List.getD_eq_getElem?_getD, List.getElem?_set, List.getElem?_map, List.length_map]
  by_cases e : id = i
  · subst e
    simp only [if_true]
    split <;> rfl
  · rw [if_neg e, if_neg (Ne.symm e)]
    cases s.objs[i]? <;> rfl

theorem sealO_none {id b : Nat} {o : Ob} : sealO id b o = .none ↔ o = .none := by cases o <;> simp [sealO]

theorem OKS.shutIn {f : Nat} {K : S → AV → Prop} {stk : List It} {s : S} (id : Nat) {T : Nat} {l : List AV} (hob : s.ob id = .cells T l) (hl : AV.groundL l = true)
    (h : ∀ b, s.M b = none → c.B0 ≤ b → OKS f c K stk (sealS id b T l s)) : OKS f c K stk s := by
  refine ⟨fun bf cs ρ a w h1 h2 hw hg => ?_⟩
  obtain ⟨cv, k1, k2, k3, k4⟩ := hg.ob id T l hob
  simp only [AV.groundL, Bool.and_eq_true] at hl
  have hcv : cv = AV.denL (fun _ => 0) l := (DenL.sure hl.1 k2).trans (AV.denL_congr (p := fun _ => false) (fun i hi => by cases hi) l hl.2)
  have lv : ∀ i, (sealS id (ρ id) T l s).live i = true ↔ s.live i = true ∧ i ≠ id := fun i => by
    unfold S.live
    rw [sealS_ob]
    by_cases e : i = id
    · simp [e, Ob.live]
    · rw [if_neg e]
      cases s.ob i <;> simp [sealO, Ob.live, e]
  have hidl : s.live id = true := by simp [S.live, hob, Ob.live]
  have hM : s.M.le (s.M.set (ρ id) (.obj (.cells (AV.vals l) T (0, 0)))) := Mem.le_set k3
  refine (h (ρ id) k3 k4).ok bf cs ρ a w h1 h2 ⟨fun t => ?_, fun i U k hi => ?_, ?_⟩ ⟨?_, fun t => ?_, hg.defers, ?_, fun i U k hi => ?_, fun i j hi hj => hg.inj i j ((lv i).1 hi).1 ((lv j).1 hj).1, hg.fr, fun b hb => ?_⟩
  · rw [sealS_get]; exact sealA_wf (fun i hi hne => (lv i).2 ⟨hi, hne⟩) _ (hw.tmps t)
  · rw [sealS_ob] at hi
    by_cases e : i = id
    · rw [if_pos e] at hi; cases hi
    · rw [if_neg e] at hi
      cases ho : s.ob i with
      | none => rw [ho] at hi; cases hi
      | cells U' k' =>
        rw [ho] at hi; cases hi
        exact sealL_wf (fun i hi hne => (lv i).2 ⟨hi, hne⟩) _ (hw.objs i _ _ ho)
  · simp only [sealS, sealL_eq, List.length_map, List.length_set]; exact hw.len
  · simp only [sealS, sealL_eq, List.length_map]; exact hg.tsz
  · rw [sealS_get]; exact sealA_Den rfl (hg.tmp t)
  · refine Mem.on_set hg.mem ?_
    show _ = _
    rw [k1, hcv]; rfl
  · rw [sealS_ob] at hi
    by_cases e : i = id
    · rw [if_pos e] at hi; cases hi
    · rw [if_neg e] at hi
      cases ho : s.ob i with
      | none => rw [ho] at hi; cases hi
      | cells U' k' =>
        rw [ho] at hi; cases hi
        obtain ⟨cs', j1, j2, j3, j4⟩ := hg.ob i _ _ ho
        refine ⟨cs', j1, sealL_DenL rfl j2, ?_, j4⟩
        have hne : ρ i ≠ ρ id := fun e' => e (hg.inj i id (by simp [S.live, ho, Ob.live]) hidl e')
        simp [sealS, Mem.set, hne, j3]
  · simp only [sealS, Mem.set] at hb
    by_cases e : b = ρ id
    · subst e
      exact .inr k4
    · rw [if_neg e] at hb; exact hg.new b hb

end
end Go.SX

/- How lists lie in memory; arithmetic without overflow. -/
namespace Go.SX

/-! ### Arithmetic -/

def I64 (x : Int) : Prop := -9223372036854775808 ≤ x ∧ x < 9223372036854775808
def U64 (x : Int) : Prop := 0 ≤ x ∧ x < 18446744073709551616

theorem wrap_i64 {x : Int} (h1 : -9223372036854775808 ≤ x) (h2 : x < 9223372036854775808) : IntKind.i64.wrap x = x := by
  rw [IntKind.wrap_i64]; omega
theorem wrap_u64 {x : Int} (h1 : 0 ≤ x) (h2 : x < 18446744073709551616) : IntKind.u64.wrap x = x := by
  rw [IntKind.wrap_u64]; omega
theorem wrap_u64_mod (x : Int) : IntKind.u64.wrap x = x % 18446744073709551616 := IntKind.wrap_u64 x

theorem ArS.i64 {e : Unit → Int} {p : (Unit → Int) → Prop} (n : Int) (he : e () = n) (h1 : -9223372036854775808 ≤ n) (h2 : n < 9223372036854775808) (hp : p (fun _ => n)) : ArS .i64 e p :=
  .mk n (by rw [he]; exact wrap_i64 h1 h2) hp
theorem ArS.u64 {e : Unit → Int} {p : (Unit → Int) → Prop} (n : Int) (he : e () = n) (h1 : 0 ≤ n) (h2 : n < 18446744073709551616) (hp : p (fun _ => n)) : ArS .u64 e p :=
  .mk n (by rw [he]; exact wrap_u64 h1 h2) hp
theorem ArS.u64m {e : Unit → Int} {p : (Unit → Int) → Prop} (n : Int) (he : e () = n) (hp : p (fun _ => n % 18446744073709551616)) : ArS .u64 e p :=
  .mk _ (by rw [he]; exact wrap_u64_mod n) hp

theorem ArS.nat {e : Unit → Int} {p : (Unit → Int) → Prop} (n : Nat) (he : e () = (n : Int)) (h2 : n < 18446744073709551616) (hp : p (fun _ => (n : Int))) : ArS .u64 e p :=
  .u64 n he (by omega) (by omega) hp
theorem nc (n : Nat) : (NatCast.natCast n : Int) = (n : Int) := rfl
theorem ArS.u8N {e : Unit → Int} {p : (Unit → Int) → Prop} (n : Nat) (he : e () = (n : Int)) (h2 : n < 256) (hp : p (fun _ => (n : Int))) : ArS .u8 e p :=
  .mk n (by rw [he, IntKind.wrap_u8]; omega) hp
theorem BitS.low32 {a b : Unit → Int} {p : (Unit → Int) → Prop} (x : Nat) (ha : a () = (x : Int)) (hb : b () = 4294967295) (hx : x < 18446744073709551616) (hp : p (fun _ => ((x % 4294967296 : Nat) : Int))) : BitS .and .u64 a b p := by
  refine .mk _ ?_ hp
  rw [ha, hb]
  simp only [bitF, Option.some.injEq]
  have h1 : (BitVec.ofInt 64 (x : Int)).toNat = x := by simp; omega
  have h2 : (BitVec.ofInt 64 (x : Int) &&& BitVec.ofInt 64 4294967295).toNat = x % 4294967296 := by
    rw [BitVec.toNat_and, h1]
    have : (BitVec.ofInt 64 4294967295).toNat = 2 ^ 32 - 1 := by decide
    rw [this, Nat.and_two_pow_sub_one_eq_mod]
  show IntKind.u64.wrap ((BitVec.ofInt 64 (x : Int) &&& BitVec.ofInt 64 4294967295).toNat : Int) = _
  rw [h2]
  exact wrap_u64 (by omega) (by omega)
theorem BitS.orN {a b : Unit → Int} {p : (Unit → Int) → Prop} (x y z : Nat) (ha : a () = (x : Int)) (hb : b () = (y : Int)) (hx : x < 18446744073709551616) (hy : y < 18446744073709551616) (hz : z = x ||| y) (hp : p (fun _ => (z : Int))) : BitS .or .u64 a b p := by
  refine .mk _ ?_ hp
  rw [ha, hb]
  simp only [bitF, Option.some.injEq]
  have h1 : (BitVec.ofInt 64 (x : Int)).toNat = x := by simp; omega
  have h2 : (BitVec.ofInt 64 (y : Int)).toNat = y := by simp; omega
  have h3 : (BitVec.ofInt 64 (x : Int) ||| BitVec.ofInt 64 (y : Int)).toNat = x ||| y := by rw [BitVec.toNat_or, h1, h2]
  have h4 : x ||| y < 2 ^ 64 := Nat.or_lt_two_pow (by simpa using hx) (by simpa using hy)
  show IntKind.u64.wrap ((BitVec.ofInt 64 (x : Int) ||| BitVec.ofInt 64 (y : Int)).toNat : Int) = _
  rw [h3, hz]
  exact wrap_u64 (by omega) (by omega)
theorem ArS.natm {e : Unit → Int} {p : (Unit → Int) → Prop} (n : Nat) (m : Int) (he : e () = m) (hm : m % 18446744073709551616 = (n : Int)) (hp : p (fun _ => (n : Int))) : ArS .u64 e p :=
  .mk n (by rw [he, wrap_u64_mod, hm]) hp
theorem ShS.shrN {a b : Unit → Int} {p : (Unit → Int) → Prop} (x s q : Nat) (ha : a () = (x : Int)) (hb : b () = (s : Int)) (hs : s ≤ 64) (hq : q = x / 2 ^ s) (hp : p (fun _ => (q : Int))) : ShS .shr .u64 a b p := by
  refine .shr _ rfl (by rw [hb]; omega) ?_ hp
  rw [ha, hb]
  have : min (s : Int).toNat IntKind.u64.bits = s := by simp [IntKind.bits]; omega
  rw [this, hq]
  have h2 : ((2 : Int) ^ s) = ((2 ^ s : Nat) : Int) := by simp
  rw [h2]
  exact (Int.fdiv_eq_ediv_of_nonneg _ (Int.natCast_nonneg _)).trans (Int.natCast_ediv _ _).symm
theorem ShS.shlN {a b : Unit → Int} {p : (Unit → Int) → Prop} (x s q : Nat) (ha : a () = (x : Int)) (hb : b () = (s : Int)) (hs : s ≤ 64) (hq : q = x * 2 ^ s % 18446744073709551616) (hp : p (fun _ => (q : Int))) : ShS .shl .u64 a b p := by
  refine .shl _ rfl (by rw [hb]; omega) ?_ hp
  rw [ha, hb]
  have : min (s : Int).toNat IntKind.u64.bits = s := by simp [IntKind.bits]; omega
  rw [this, hq, wrap_u64_mod]
  have h2 : (x : Int) * ((2 : Int) ^ s) = ((x * 2 ^ s : Nat) : Int) := by simp
  rw [h2]
  omega
theorem DivS.quoN {a b : Unit → Int} {p : (Unit → Int) → Prop} (x y : Nat) (ha : a () = (x : Int)) (hb : b () = (y : Int)) (hy : 0 < y) (hx : x < 18446744073709551616) (hp : p (fun _ => ((x / y : Nat) : Int))) : DivS .quo .u64 a b p := by
  refine .quo _ rfl (by rw [hb]; omega) ?_ hp
  rw [ha, hb, Int.tdiv_eq_ediv_of_nonneg (by omega), ← Int.natCast_ediv]
  have : x / y ≤ x := Nat.div_le_self _ _
  generalize x / y = q at *
  exact wrap_u64 (by omega) (by omega)
theorem DivS.remN {a b : Unit → Int} {p : (Unit → Int) → Prop} (x y : Nat) (ha : a () = (x : Int)) (hb : b () = (y : Int)) (hy : 0 < y) (hp : p (fun _ => ((x % y : Nat) : Int))) : DivS .rem .u64 a b p := by
  refine .rem _ rfl (by rw [hb]; omega) ?_ hp
  rw [ha, hb, Int.tmod_eq_emod_of_nonneg (by omega), ← Int.natCast_emod]

/-! ### Lists side by side -/

def All2 {α β : Type} (R : α → β → Prop) : List α → List β → Prop
  | [], [] => True
  | a :: l, b :: m => R a b ∧ All2 R l m
  | _, _ => False

namespace All2
variable {α β : Type} {R R' : α → β → Prop}

theorem length : ∀ {l : List α} {m : List β}, All2 R l m → l.length = m.length
  | [], [], _ => rfl
  | _ :: _, _ :: _, h => by simp [length h.2]
  | [], _ :: _, h => h.elim
  | _ :: _, [], h => h.elim

theorem mono (hR : ∀ a b, R a b → R' a b) : ∀ {l : List α} {m : List β}, All2 R l m → All2 R' l m
  | [], [], _ => trivial
  | _ :: _, _ :: _, h => ⟨hR _ _ h.1, mono hR h.2⟩
  | [], _ :: _, h => h.elim
  | _ :: _, [], h => h.elim

theorem get : ∀ {l : List α} {m : List β} {i : Nat} {b : β}, All2 R l m → m[i]? = some b → ∃ a, l[i]? = some a ∧ R a b
  | [], [], i, b, _, h => by simp at h
  | a :: l, b' :: m, 0, b, h, e => by simp at e; subst e; exact ⟨a, rfl, h.1⟩
  | a :: l, b' :: m, i + 1, b, h, e => by simp at e; simpa using get h.2 e
  | [], _ :: _, _, _, h, _ => h.elim
  | _ :: _, [], _, _, h, _ => h.elim

theorem append : ∀ {l l' : List α} {m m' : List β}, All2 R l m → All2 R l' m' → All2 R (l ++ l') (m ++ m')
  | [], _, [], _, _, h => h
  | _ :: _, _, _ :: _, _, h, h' => ⟨h.1, append h.2 h'⟩
  | [], _, _ :: _, _, h, _ => h.elim
  | _ :: _, _, [], _, h, _ => h.elim

theorem one {a : α} {b : β} (h : R a b) : All2 R [a] [b] := ⟨h, trivial⟩

theorem take : ∀ (n : Nat) {l : List α} {m : List β}, All2 R l m → All2 R (l.take n) (m.take n)
  | 0, _, _, _ => by simp [All2]
  | n + 1, [], [], _ => by simp [All2]
  | n + 1, _ :: _, _ :: _, h => ⟨h.1, take n h.2⟩
  | _ + 1, [], _ :: _, h => h.elim
  | _ + 1, _ :: _, [], h => h.elim

theorem drop : ∀ (n : Nat) {l : List α} {m : List β}, All2 R l m → All2 R (l.drop n) (m.drop n)
  | 0, _, _, h => by simpa using h
  | n + 1, [], [], _ => by simp [All2]
  | n + 1, _ :: _, _ :: _, h => by simpa using drop n h.2
  | _ + 1, [], _ :: _, h => h.elim
  | _ + 1, _ :: _, [], h => h.elim

theorem set : ∀ {l : List α} {m : List β} (i : Nat) {a : α} {b : β}, All2 R l m → R a b → All2 R (l.set i a) (m.set i b)
  | [], [], _, _, _, _, _ => trivial
  | _ :: _, _ :: _, 0, _, _, h, r => ⟨r, h.2⟩
  | _ :: _, _ :: _, i + 1, _, _, h, r => ⟨h.1, set i h.2 r⟩
  | [], _ :: _, _, _, _, h, _ => h.elim
  | _ :: _, [], _, _, _, h, _ => h.elim
end All2

/-! ### Cells -/

theorem CellsAt.append {M : Mem} : ∀ {l m : List Value} {b o : Nat}, CellsAt M b o (l ++ m) ↔ CellsAt M b o l ∧ CellsAt M b (o + l.length) m
  | [], m, b, o => by simp [CellsAt]
  | x :: l, m, b, o => by
    simp only [List.cons_append, CellsAt, CellsAt.append (l := l), List.length_cons, and_assoc]
    have : o + 1 + l.length = o + (l.length + 1) := by omega
    rw [this]

theorem CellsAt.le {M M' : Mem} (h : M.le M') : ∀ {l : List Value} {b o : Nat}, CellsAt M b o l → CellsAt M' b o l
  | [], _, _, _ => trivial
  | _ :: _, _, _, hc => ⟨Mem.cell_le h hc.1, CellsAt.le h hc.2⟩

theorem CellsAt.of_get {M : Mem} : ∀ {l : List Value} {b o : Nat}, (∀ j v, l[j]? = some v → M.cell b (o + j) = some v) → CellsAt M b o l
  | [], _, _, _ => trivial
  | v :: l, b, o, h => ⟨by simpa using h 0 v rfl, CellsAt.of_get fun j u hj => by have := h (j + 1) u (by simpa using hj); rwa [show o + (j + 1) = o + 1 + j by omega] at this⟩

theorem CellsAt.row {M : Mem} {b T N : Nat} {cs : List Value} (h : M b = some (.row T N cs)) : CellsAt M b 0 cs :=
  CellsAt.of_get fun j v hj => by simp [Mem.cell, h, hj]

theorem CellsAt.chunk {M : Mem} {b sz : Nat} : ∀ {cs : List (List Value)} {o i : Nat} {x : List Value}, (∀ x ∈ cs, x.length = sz) → CellsAt M b o cs.flatten → cs[i]? = some x → CellsAt M b (o + i * sz) x
  | [], _, _, _, _, _, h => by simp at h
  | y :: cs, o, 0, x, hs, hc, h => by
    simp at h; subst h
    rw [List.flatten_cons, CellsAt.append] at hc
    simpa using hc.1
  | y :: cs, o, i + 1, x, hs, hc, h => by
    rw [List.flatten_cons, CellsAt.append] at hc
    have hy := hs y (by simp)
    have := CellsAt.chunk (cs := cs) (o := o + y.length) (i := i) (x := x) (fun z hz => hs z (by simp [hz])) hc.2 (by simpa using h)
    rw [hy] at this
    rwa [show o + (i + 1) * sz = o + sz + i * sz by rw [Nat.add_mul]; omega]

/-! ### Slices -/

section
variable {α : Type}

/-- How an element lies in memory. -/
abbrev ElR (α : Type) := Mem → List Value → α → Prop

/-- That an element that lies in memory lies there in a greater one. -/
def ElR.Up (R : ElR α) : Prop := ∀ M M' : Mem, M.le M' → ∀ c x, R M c x → R M' c x

/-- A slice (its address, its length, its capacity) reads as a list. -/
structure RdL (R : ElR α) (sz : Nat) (M : Mem) (a : Option Addr) (n cap : Nat) (l : List α) : Prop where
  len : n = l.length
  le : l.length ≤ cap
  nil : a = none → cap = 0
  els : ∃ cs : List (List Value), All2 (fun c x => c.length = sz ∧ R M c x) cs l ∧ (l ≠ [] → ∃ b o, a = some ⟨b, o, none⟩ ∧ CellsAt M b o cs.flatten)

def RdS (R : ElR α) (sz : Nat) (M : Mem) (v : Value) (l : List α) : Prop := ∃ a cap, v = .slice a l.length cap ∧ RdL R sz M a l.length cap l

theorem RdL.up {R : ElR α} (hR : R.Up) {sz : Nat} {M M' : Mem} (h : M.le M') {a : Option Addr} {n cap : Nat} {l : List α} (hr : RdL R sz M a n cap l) : RdL R sz M' a n cap l :=
  ⟨hr.len, hr.le, hr.nil, let ⟨cs, h1, h2⟩ := hr.els; ⟨cs, h1.mono fun c x ⟨k1, k2⟩ => ⟨k1, hR _ _ h c x k2⟩, fun hl => let ⟨b, o, e, hc⟩ := h2 hl; ⟨b, o, e, hc.le h⟩⟩⟩

theorem RdS.up {R : ElR α} (hR : R.Up) {sz : Nat} {M M' : Mem} (h : M.le M') {v : Value} {l : List α} (hr : RdS R sz M v l) : RdS R sz M' v l :=
  let ⟨a, cap, e, h1⟩ := hr; ⟨a, cap, e, h1.up hR h⟩

theorem RdL.nil' (R : ElR α) (sz : Nat) (M : Mem) : RdL R sz M none 0 0 [] := ⟨rfl, by simp, fun _ => rfl, [], trivial, fun h => absurd rfl h⟩

/-- An element. -/
theorem RdL.at {R : ElR α} {sz : Nat} {M : Mem} {a : Option Addr} {n cap : Nat} {l : List α} (h : RdL R sz M a n cap l) {i : Nat} {x : α} (hi : l[i]? = some x) :
    ∃ b o c, a = some ⟨b, o, none⟩ ∧ c.length = sz ∧ R M c x ∧ CellsAt M b (o + i * sz) c := by
  obtain ⟨cs, h1, h2⟩ := h.els
  obtain ⟨b, o, e, hc⟩ := h2 (fun e => by subst e; simp at hi)
  obtain ⟨c, k1, k2, k3⟩ := h1.get hi
  refine ⟨b, o, c, e, k2, k3, CellsAt.chunk (fun y hy => ?_) hc k1⟩
  obtain ⟨j, hj⟩ := List.getElem?_of_mem hy
  have hlt : j < l.length := by rw [← h1.length]; exact (List.getElem?_eq_some_iff.1 hj).1
  obtain ⟨c', e1, e2, _⟩ := h1.get (List.getElem?_eq_getElem hlt)
  rw [hj] at e1; cases e1; exact e2

theorem RdL.take {R : ElR α} {sz : Nat} {M : Mem} {a : Option Addr} {n cap : Nat} {l : List α} (h : RdL R sz M a n cap l) (k : Nat) (hk : k ≤ l.length) : RdL R sz M a k cap (l.take k) := by
  obtain ⟨cs, h1, h2⟩ := h.els
  refine ⟨by simp [hk], by have := h.le; simp; omega, h.nil, cs.take k, h1.take k, fun hl => ?_⟩
  obtain ⟨b, o, e, hc⟩ := h2 (fun e => hl (by rw [e]; simp))
  refine ⟨b, o, e, ?_⟩
  have : cs.flatten = (cs.take k).flatten ++ (cs.drop k).flatten := by rw [← List.flatten_append, List.take_append_drop]
  rw [this, CellsAt.append] at hc
  exact hc.1

/-- What a call has made reads so. -/
theorem Own.rd {c : Ct} {R : ElR α} {sz e : Nat} {M : Mem} {a : Option Addr} {n cap : Nat} {xs : List Value} {l : List α} (h : Own c M e sz a n cap xs) {cs : List (List Value)} (hx : xs = cs.flatten) (hl : All2 (fun c x => c.length = sz ∧ R M c x) cs l) (hn : n = l.length) :
    RdL R sz M a n cap l := by
  refine ⟨hn, ?_, fun ha => ?_, cs, hl, fun hne => ?_⟩
  · rcases h.row with ⟨_, rfl, rfl⟩ | ⟨g, _, _, _, h1, _⟩ <;> omega
  · rcases h.row with ⟨_, _, rfl⟩ | ⟨g, e, _⟩
    · rfl
    · rw [e] at ha; cases ha
  · rcases h.row with ⟨_, rfl, _⟩ | ⟨g, e, _, h1, _⟩
    · exact absurd (List.eq_nil_of_length_eq_zero hn.symm) hne
    · exact ⟨g, 0, e, by rw [← hx]; exact CellsAt.row h1⟩

/-! ### Integers -/

def ElI (k : IntKind) (P : Int → Prop) : ElR Int := fun _ c x => c = [.int k x] ∧ P x
theorem ElI.up (k : IntKind) (P : Int → Prop) : (ElI k P).Up := fun _ _ _ _ _ h => h

end
end Go.SX
