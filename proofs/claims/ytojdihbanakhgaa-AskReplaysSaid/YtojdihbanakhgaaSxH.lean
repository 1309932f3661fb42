/- The executor: it runs a function's code over an abstract state, and stops where it must ask. Over the program whose types SxTy tells. -/
import Derived.Test.YtojdihbanakhgaaSxTy
namespace Go.SX

/-- The values of a list of abstract values that bear nothing of the local variables. -/
def AV.vals (l : List AV) : Array Value := (AV.denL (fun _ => 0) l).toArray
def AV.groundL (l : List AV) : Bool := AV.sureL l && AV.wfL (fun _ => false) l

/-! ### Where it stops -/

section
variable (c : Ct)

/-- A test that is not decided. -/
inductive BrS (b : Unit → Bool) (p q : Prop) : Prop
  | mk : (b () = true → p) → (b () = false → q) → BrS b p q

/-- A number that may have to be wrapped. -/
inductive ArS (k : IntKind) (e : Unit → Int) (p : (Unit → Int) → Prop) : Prop
  | mk (n : Int) : k.wrap (e ()) = n → p (fun _ => n) → ArS k e p

/-- A division. -/
inductive DivS (op : BinOp) (k : IntKind) (a b : Unit → Int) (p : (Unit → Int) → Prop) : Prop
  | quo (n : Int) : op = .quo → b () ≠ 0 → k.wrap ((a ()).tdiv (b ())) = n → p (fun _ => n) → DivS op k a b p
  | rem (n : Int) : op = .rem → b () ≠ 0 → (a ()).tmod (b ()) = n → p (fun _ => n) → DivS op k a b p

def bitF (op : BinOp) (k : IntKind) (x y : Int) : Option Int :=
  match op with
  | .and => some (k.wrap (BitVec.ofInt k.bits x &&& BitVec.ofInt k.bits y).toNat)
  | .or => some (k.wrap (BitVec.ofInt k.bits x ||| BitVec.ofInt k.bits y).toNat)
  | .xor => some (k.wrap (BitVec.ofInt k.bits x ^^^ BitVec.ofInt k.bits y).toNat)
  | .andNot => some (k.wrap (BitVec.ofInt k.bits x &&& ~~~ BitVec.ofInt k.bits y).toNat)
  | _ => none

/-- Bits. -/
inductive BitS (op : BinOp) (k : IntKind) (a b : Unit → Int) (p : (Unit → Int) → Prop) : Prop
  | mk (n : Int) : bitF op k (a ()) (b ()) = some n → p (fun _ => n) → BitS op k a b p

/-- A shift. -/
inductive ShS (op : BinOp) (k : IntKind) (a b : Unit → Int) (p : (Unit → Int) → Prop) : Prop
  | shl (n : Int) : op = .shl → 0 ≤ b () → k.wrap (a () * 2 ^ (min (b ()).toNat k.bits)) = n → p (fun _ => n) → ShS op k a b p
  | shr (n : Int) : op = .shr → 0 ≤ b () → (a ()).fdiv (2 ^ (min (b ()).toNat k.bits)) = n → p (fun _ => n) → ShS op k a b p

/-- One cell of memory. -/
inductive LoadS (b o : Unit → Nat) (M : Mem) (p : AV → Prop) : Prop
  | mk (r : AV) : r.ground = true → M.cell (b ()) (o ()) = some r.val → p r → LoadS b o M p

def CellsAt (M : Mem) (b o : Nat) : List Value → Prop
  | [] => True
  | v :: l => M.cell b o = some v ∧ CellsAt M b (o + 1) l

/-- A struct in memory. -/
inductive LoadsS (n : Nat) (b o : Unit → Nat) (M : Mem) (p : AV → Prop) : Prop
  | mk (l : List AV) : l.length = n → AV.groundL l = true → CellsAt M (b ()) (o ()) (AV.denL (fun _ => 0) l) → p (.agg l) → LoadsS n b o M p

/-- An element's place. -/
inductive IdxS (a : Unit → Option Addr) (n : Unit → Nat) (i : Unit → Int) (sz : Nat) (p : AV → Prop) : Prop
  | mk (b o j : Nat) : a () = some ⟨b, o, none⟩ → i () = (j : Int) → j < n () → p (.el (fun _ => b) (fun _ => o + j * sz)) → IdxS a n i sz p

/-- A place in an array of the function's own: which one? -/
inductive IdxA (n : Nat) (i : Unit → Int) (p : Nat → Prop) : Prop
  | mk (j : Nat) : i () = (j : Int) → j < n → p j → IdxA n i p

/-- A part of a slice: from l to h, up to m. -/
inductive SliceS (sz : Nat) (a : Unit → Option Addr) (n c : Unit → Nat) (lo hi mx : Option (Unit → Int)) (p : AV → Prop) : Prop
  | mk (l h m : Nat) : (lo.map (· ())).getD 0 = (l : Int) → (hi.map (· ())).getD (n () : Int) = (h : Int) → (mx.map (· ())).getD (c () : Int) = (m : Int) → (mx.isSome = true → hi.isSome = true) → l ≤ h → h ≤ m → m ≤ c () →
      p (.slice (fun _ => if m = l then a () else (a ()).map (·.add (l * sz))) (fun _ => h - l) (fun _ => m - l)) → SliceS sz a n c lo hi mx p

/-- A byte of a string. -/
inductive StrS (x : Unit → Value) (i : Unit → Int) (p : AV → Prop) : Prop
  | mk (s : ByteArray) (j : Nat) (n : UInt8) : x () = .string s → i () = (j : Int) → s[j]? = some n → p (.sym .u8 fun _ => (n.toNat : Int)) → StrS x i p

/-- A new row. -/
inductive NewS (i : NewI) (M : Mem) (p : Mem → AV → Prop) : Prop
  | mk : i.side () → (∀ b M', M b = none → c.B0 ≤ b → M' = M.set b i.frag → p M' (i.r b)) → NewS i M p

/-- A store into memory. -/
inductive StoreS (b o : Unit → Nat) (l : List AV) (M : Mem) (p : Mem → Prop) : Prop
  | mk (M' : Mem) : (∀ w, M.on w → c.B0 ≤ w.heap.size → ∃ w', (storeCells ⟨b (), o (), none⟩ (AV.denL (fun _ => 0) l)).run PR w = .ok () w' ∧ Grow c true M w M' w') → p M' → StoreS b o l M p

/-- What a call that asks memory M comes to. -/
def EffG (up : Bool) (M : Mem) (p : Mem → AV → Prop) (res : World → Result Next) : Prop :=
  ∀ w, M.on w → c.B0 ≤ w.heap.size → ResV PR (fun v w' => ∃ M' r, v = r.val ∧ r.ground = true ∧ Grow c up M w M' w' ∧ p M' r) (res w)

/-- A call. -/
inductive CallS (up : Bool) (f : Nat) (args : List AV) (M : Mem) (p : Mem → AV → Prop) : Prop
  | mk : EffG c up M p (fun w => (callFunc f (AV.vals args)).run PR w) → CallS up f args M p

/-- append. -/
inductive AppS (up : Bool) (ts : List Nat) (args : List AV) (M : Mem) (p : Mem → AV → Prop) : Prop
  | mk : EffG c up M p (fun w => (builtin .append ts.toArray 0 #[] (AV.vals args)).run PR w) → AppS up ts args M p

/-- Another builtin. -/
inductive BuiS (up : Bool) (b : Builtin) (ts : List Nat) (args : List AV) (M : Mem) (p : Mem → AV → Prop) : Prop
  | mk : EffG c up M p (fun w => (builtin b ts.toArray 0 #[] (AV.vals args)).run PR w) → BuiS up b ts args M p

end

/-! ### One operation -/

def vF (op : Op) (ev : Operand → AV) (ob : Nat → Ob) : Option AV := valF TB op ev ob

def optI (ev : Operand → AV) : Option Operand → Option (Option (Unit → Int))
  | none => some none
  | some x =>
    match (ev x).asI with
    | some (_, n) => some (some n)
    | none => none

def sliceOf : AV → Option ((Unit → Option Addr) × (Unit → Nat) × (Unit → Nat))
  | .slice a n c => some (a, n, c)
  | .nils => some (fun _ => none, fun _ => 0, fun _ => 0)
  | _ => none

def minF (mx : Bool) (a b : Int) : Int := if mx then (if a < b then b else a) else (if b < a then b else a)

/-- What must be asked of an operation that only reads. -/
def rAsk (op : Op) (ev : Operand → AV) (M : Mem) (p : AV → Prop) : Prop :=
  match op with
  | .load t x =>
    match ev x, TB.ty t with
    | .el b o, some i => if i.k.agg then LoadsS i.size b o M p else LoadS b o M p
    | _, _ => False
  | .indexAddr t x i =>
    match (TB.ty t).map TI.k, (ev i).asI with
    | some (.slice e), some (_, n) =>
      match sliceOf (ev x), TB.ty e with
      | some (a, l, _), some ti => IdxS a l n ti.size p
      | _, _ => False
    | some (.arr m e), some (_, n) =>
      match ev x, TB.ty e with
      | .ptr id off, some ti => IdxA m n fun j => p (.ptr id (off + j * ti.size))
      | _, _ => False
    | _, _ => False
  | .binOp op _ x y _ =>
    match (ev x).asI, (ev y).asI with
    | some (k, a), some (k', b) =>
      match op with
      | .add => if k = k' then ArS k (fun _ => a () + b ()) fun n => p (.sym k n) else False
      | .sub => if k = k' then ArS k (fun _ => a () - b ()) fun n => p (.sym k n) else False
      | .mul => if k = k' then ArS k (fun _ => a () * b ()) fun n => p (.sym k n) else False
      | .quo | .rem => if k = k' then DivS op k a b fun n => p (.sym k n) else False
      | .and | .or | .xor | .andNot => if k = k' then BitS op k a b fun n => p (.sym k n) else False
      | .shl | .shr => ShS op k a b fun n => p (.sym k n)
      | _ => False
    | _, _ => False
  | .unOp .neg _ x =>
    match (ev x).asI with
    | some (k, a) => ArS k (fun _ => 0 - a ()) fun n => p (.sym k n)
    | none => False
  | .convert src dst x =>
    match (ev x).asI, (TB.ty src).isSome, (TB.ty dst).map TI.k with
    | some (_, a), true, some (.int k) => ArS k a fun n => p (.sym k n)
    | _, _, _ => False
  | .slice t x lo hi mx =>
    match (TB.ty t).map TI.k, sliceOf (ev x), optI ev lo, optI ev hi, optI ev mx with
    | some (.slice e), some (a, n, c), some l, some h, some m =>
      match TB.ty e with
      | some ti => SliceS ti.size a n c l h m p
      | none => False
    | _, _, _, _, _ => False
  | .call { callee := .builtin .min, args, .. } =>
    match args.toList with
    | [x, y] =>
      match (ev x).asI, (ev y).asI with
      | some (k, a), some (_, b) => p (.sym k fun _ => minF false (a ()) (b ()))
      | _, _ => False
    | _ => False
  | .call { callee := .builtin .max, args, .. } =>
    match args.toList with
    | [x, y] =>
      match (ev x).asI, (ev y).asI with
      | some (k, a), some (_, b) => p (.sym k fun _ => minF true (a ()) (b ()))
      | _, _ => False
    | _ => False
  | .index t x i =>
    match (TB.ty t).map TI.k, ev x, (ev i).asI with
    | some .str, .v s, some (_, n) => StrS s n p
    | _, _, _ => False
  | _ => False

/-- An operation that may change what is known of memory. -/
def eAsk (c : Ct) (up : Bool) (op : Op) (ev : Operand → AV) (M : Mem) (p : Mem → AV → Prop) : Prop :=
  match op with
  | .call { callee := .value f, args, .. } =>
    match ev f with
    | .clo (.func g) fst cap =>
      let l := fst ++ args.toList.map ev ++ cap
      if AV.groundL l then CallS c up g l M p else False
    | _ => False
  | .call { callee := .builtin b, args, argTypes } =>
    let l := args.toList.map ev
    if AV.groundL l then
      match b with
      | .append => AppS c up argTypes.toList l M p
      | .clear => BuiS c up .clear argTypes.toList l M p
      | _ => False
    else False
  | _ => False

def stepK (c : Ct) (g det upd : Bool) (av : List Nat) (kd : Kd) (dst : Option Nat) (op : Op) (s : S) (k : S → Prop) : Prop :=
  match kd with
  | .r =>
    match vF op s.eval (s.drop av).ob with
    | some (.sb b) => if g && !det then BrS b (k (s.put dst .tt)) (k (s.put dst .ff)) else k (s.put dst (.sb b))
    | some r =>
      match av with
      | [] => k (s.put dst r)
      | _ => if r.wf (s.drop av).live then k (s.put dst r) else False
    | none =>
      if det then False else
      match av with
      | [] => rAsk op s.eval s.M fun r => k (s.put dst r)
      | _ => rAsk op s.eval s.M fun r => if r.wf (s.drop av).live then k (s.put dst r) else False
  | .e => eAsk c upd op s.eval s.M fun M r => k ((s.withM M).put dst r)
  | .n =>
    match newF TB op s.eval with
    | some i => NewS c i s.M fun M r => k ((s.withM M).put dst r)
    | none => False
  | .f =>
    match dst, allocF TB op s.eval with
    | some d, some (T, l) =>
      match s.ob d with
      | .none => if d < s.objs.length then k ((s.setOb d (.cells T l)).put (some d) (.ptr d 0)) else False
      | _ => False
    | _, _ => False
  | .w =>
    match dst, op with
    | none, .store t (.tmp a) x =>
      match s.get a with
      | .ptr _ _ =>
        match storeF TB op s.eval s.ob with
        | some (i, T, l') => if av.isEmpty || av.contains i then k (s.setOb i (.cells T l')) else False
        | none => False
      | .el b q =>
        match (s.eval x).cellsA, TB.ty t with
        | some l, some ti => if av.isEmpty = true ∧ l.length = ti.size ∧ AV.groundL l = true then StoreS c b q l s.M fun M => k (s.withM M) else False
        | _, _ => False
      | _ => False
    | _, _ => False
  | .bad => False

def opStep (c : Ct) (g : Bool) (m : Md) (o : Oper) (s : S) (k : S → Prop) : Prop := stepK c g m.det m.upd m.avoid (kd o) o.dst o.op s k

def guardL (ops : List Oper) (o : Oper) (s : S) : Option Bool :=
  match o.guard with
  | none => some true
  | some (j, want) =>
    match (ops[j]?).bind (·.dst) with
    | some t =>
      match s.get t with
      | .tt => some want
      | .ff => some (!want)
      | .v x => match x () with
        | .bool _ => none
        | _ => some false
      | _ => none
    | none => none

def runOps (c : Ct) (ops : Unit → List Oper) (gs : List Nat) (mds : List (Nat × Md)) : List Nat → S → (S → Prop) → Prop
  | [], s, k => k s
  | i :: l, s, k =>
    match (ops ())[i]? with
    | none => False
    | some o =>
      match guardL (ops ()) o s with
      | some true => opStep c (gs.contains i) (mdAt mds i) o s fun s => runOps c ops gs mds l s k
      | some false => runOps c ops gs mds l (s.put o.dst uav) k
      | none => False

/-! ### The code -/

/-- Code whose parts are kept folded: a region has its order with it. -/
inductive Q where
  | skip
  | ret
  | exit (id : Nat)
  | seq (a b : Unit → Q)
  | cond (x : Operand) (a b : Unit → Q)
  | block (id : Nat) (b : Unit → Q)
  | loop (b : Unit → Q)
  | region (id : Nat) (ops : Unit → List Oper) (gs : List Nat) (draw : Bool) (ord : List Nat) (mds : List (Nat × Md))
  | stop (q : Unit → Q)

def Q.code : Q → Code
  | .skip => .skip
  | .ret => .ret
  | .exit id => .exit id
  | .seq a b => .seq (a ()).code (b ()).code
  | .cond x a b => .cond x (a ()).code (b ()).code
  | .block id b => .block id (b ()).code
  | .loop b => .loop (b ()).code
  | .region id ops _ draw _ _ => .region id (ops ()).toArray draw
  | .stop q => (q ()).code

inductive It where
  | code (q : Unit → Q)
  | inBlock (id : Nat)
  | inLoop (q : Unit → Q)

def It.item : It → Item
  | .code q => .code (q ()).code
  | .inBlock id => .inBlock id
  | .inLoop q => .inLoop (q ()).code

def exitAt (id : Nat) : List It → Option (List It)
  | .inBlock i :: k => if i == id then some k else exitAt id k
  | _ :: k => exitAt id k
  | [] => none

/-- What a call's run must come to. -/
def Fin (f : Nat) (cs : List Frame) (c : Ct) (K : S → AV → Prop) (m : Machine) : Prop :=
  ∃ v w' fr, (∃ ρ s r a, s.WF ∧ Gam c ρ s a w' ∧ v = r.den ρ ∧ r.sure = true ∧ K s r) ∧ Comes PR m (lone fr cs w') (.returned v) ∧ fr.fn = f ∧ fr.leaving PR w' (.returned v)

/-- From this code and this state the call comes to its end. -/
structure OKS (f : Nat) (c : Ct) (K : S → AV → Prop) (stk : List It) (s : S) : Prop where
  ok : ∀ (b : Frame) (cs : List Frame) (ρ : Nat → Nat) (a : Act) (w : World), b.fn = f → b.kind = .normal → s.WF → Gam c ρ s a w → Fin f cs c K (lone (b.at a (stk.map It.item)) cs w)

def resA (s : S) : List ResultVar → Option (List AV)
  | [] => some []
  | .tmp t :: l => (resA s l).map (s.get t :: ·)
  | .cell a t :: l =>
    match vF (.load t (.tmp a)) s.eval s.ob, resA s l with
    | some r, some k => some (r :: k)
    | _, _ => none

def resK (K : S → AV → Prop) (rs : List ResultVar) (s : S) : Prop :=
  match resA s rs with
  | some [r] => if r.sure then K s r else False
  | some l => if AV.sureL l then K s (.tup l) else False
  | none => False

def run (rs : List ResultVar) (f : Nat) (c : Ct) (K : S → AV → Prop) : Nat → List It → S → Prop
  | 0, stk, s => OKS f c K stk s
  | _, [], s => resK K rs s
  | n + 1, .inBlock _ :: r, s => run rs f c K n r s
  | _, .inLoop b :: r, s => OKS f c K (.inLoop b :: r) s
  | n + 1, .code q :: r, s =>
    match q () with
    | .skip => run rs f c K n r s
    | .seq a b => run rs f c K n (.code a :: .code b :: r) s
    | .region _ ops gs _ ord mds => runOps c ops gs mds ord s fun s => run rs f c K n r s
    | .cond x a b =>
      match s.eval x with
      | .tt => run rs f c K n (.code a :: r) s
      | .ff => run rs f c K n (.code b :: r) s
      | .sb t => BrS t (run rs f c K n (.code a :: r) s) (run rs f c K n (.code b :: r) s)
      | _ => False
    | .block id b => run rs f c K n (.code b :: .inBlock id :: r) s
    | .exit id => match exitAt id r with | some k => run rs f c K n k s | none => False
    | .loop b => OKS f c K (.code (fun _ => .loop b) :: r) s
    | .ret => resK K rs s
    | .stop q => OKS f c K (.code q :: r) s

end Go.SX
