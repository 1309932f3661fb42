/- How the syntax of an operation is read: what it comes to in an abstract state. Generic over the program; what the program's types are is asked of it. -/
import Derived.Test.YtojdihbanakhgaaSxC
import Derived.WalkKit
namespace Go.SX

structure FI where
  off : Nat
  size : Nat
  agg : Bool
  ok : Bool

inductive TK where
  | int (k : IntKind)
  | bool
  | str
  | ptr (e : Nat)
  | slice (e : Nat)
  | struct (fs : List FI)
  | arr (n e : Nat)
  | other

def TK.agg : TK → Bool
  | .struct _ | .arr _ _ => true
  | _ => false

structure TI where
  size : Nat
  bytes : Nat
  zero : List AV
  k : TK

def aggD : Option TypeDesc → Bool
  | some (.struct _) | some (.array _ _) => true
  | _ => false

def tkOf (P : Program) : Option TypeDesc → TK
  | some (.int k) => .int k
  | some .bool => .bool
  | some .string => .str
  | some (.pointer e) => .ptr e
  | some (.slice e) => .slice e
  | some (.struct fs) => .struct (fs.toList.map fun f => ⟨f.offset, P.cellsOf f.type, aggD (P.underlying f.type), (P.underlying f.type).isSome⟩)
  | some (.array n e) => .arr n e
  | _ => .other

/-- What the types' table says is what the program has. -/
structure TyOk (P : Program) (t : Nat) (i : TI) : Prop where
  info : (P.info? t).map (fun x => (x.size, x.bytes, x.zero.map (·.cells.toList))) = some (i.size, i.bytes, some (AV.denL (fun _ => 0) i.zero))
  kind : tkOf P (P.underlying t) = i.k
  und : (P.underlying t).isSome = true
  ground : i.zero.all AV.ground = true

/-- The types of which two values are compared cell by cell, all of them integers. -/
def mkInts : List IntKind → List Int → List Value
  | k :: ks, n :: ns => .int k n :: mkInts ks ns
  | _, _ => []

structure Tbl where
  ty : Nat → Option TI
  eqk : Nat → Option (List IntKind)

structure TblOk (P : Program) (T : Tbl) : Prop where
  ty : ∀ t i, T.ty t = some i → TyOk P t i
  eqk : ∀ t ks, T.eqk t = some ks → P.eqGuardType P.depth t = false ∧ ∀ xs ys : List Int, xs.length = ks.length → ys.length = ks.length → ∀ w, (Op.equal t (.agg (mkInts ks xs).toArray) (.agg (mkInts ks ys).toArray)).run P w = .ok (decide (xs = ys)) w

/-! ### Values -/

def AV.ofB : Bool → AV
  | true => .tt
  | false => .ff

def AV.asI : AV → Option (IntKind × (Unit → Int))
  | .int k n => some (k, fun _ => n)
  | .sym k n => some (k, n)
  | _ => none

def AV.cellsA : AV → Option (List AV)
  | .agg l => some l
  | .any | .v _ | .tup _ => none
  | x => some [x]

/-- One cell's. -/
def AV.one : AV → Bool
  | .any | .v _ | .tup _ | .agg _ => false
  | _ => true

def cmpF (op : BinOp) (a b : Int) : Option Bool :=
  match op with
  | .eql => some (decide (a = b))
  | .neq => some (decide (a ≠ b))
  | .lss => some (decide (a < b))
  | .leq => some (decide (a ≤ b))
  | .gtr => some (decide (b < a))
  | .geq => some (decide (b ≤ a))
  | _ => none

def cmpS (op : BinOp) (a b : Unit → Int) : Option AV :=
  match op with
  | .eql => some (.sb fun _ => decide (a () = b ()))
  | .neq => some (.sb fun _ => decide (a () ≠ b ()))
  | .lss => some (.sb fun _ => decide (a () < b ()))
  | .leq => some (.sb fun _ => decide (a () ≤ b ()))
  | .gtr => some (.sb fun _ => decide (b () < a ()))
  | .geq => some (.sb fun _ => decide (b () ≤ a ()))
  | _ => none

def AV.lit : AV → Option (IntKind × Int)
  | .int k n => some (k, n)
  | _ => none

def cmpA (op : BinOp) (x y : AV) : Option AV :=
  match x.lit, y.lit with
  | some (k, a), some (k', b) => if k = k' then (cmpF op a b).map AV.ofB else none
  | _, _ =>
    match x.asI, y.asI with
    | some (k, a), some (k', b) => if k = k' then cmpS op a b else none
    | _, _ => none

/-- The integers of a struct's cells; and whether all are literals. -/
def intsA : List IntKind → List AV → Option (List (Unit → Int))
  | [], [] => some []
  | k :: ks, x :: l =>
    match x.asI with
    | some (k', n) => if k = k' then (intsA ks l).map (n :: ·) else none
    | none => none
  | _, _ => none

def litsA : List AV → Option (List Int)
  | [] => some []
  | .int _ n :: l => (litsA l).map (n :: ·)
  | _ :: _ => none

def appU : List (Unit → Int) → List Int
  | [] => []
  | f :: l => f () :: appU l

def eqA (ks : List IntKind) (neg : Bool) (x y : List AV) : Option AV :=
  match intsA ks x, intsA ks y with
  | some a, some b =>
    match litsA x, litsA y with
    | some m, some n => some (AV.ofB (decide (m = n) != neg))
    | _, _ => some (if neg then .sb fun _ => !decide (appU a = appU b) else .sb fun _ => decide (appU a = appU b))
  | _, _ => none

def boolA (neg : Bool) (x y : AV) : Option AV :=
  match x, y with
  | .tt, .tt | .ff, .ff => some (AV.ofB (!neg))
  | .tt, .ff | .ff, .tt => some (AV.ofB neg)
  | .sb b, .tt => some (if neg then .sb (fun _ => !b ()) else .sb b)
  | .sb b, .ff => some (if neg then .sb b else .sb (fun _ => !b ()))
  | .sb b, .sb d => some (if neg then .sb (fun _ => b () != d ()) else .sb (fun _ => b () == d ()))
  | .tt, .sb b => some (if neg then .sb (fun _ => !b ()) else .sb b)
  | .ff, .sb b => some (if neg then .sb b else .sb (fun _ => !b ()))
  | _, _ => none

/-- Arithmetic on literals. -/
def litF (op : BinOp) (k : IntKind) (a b : Int) : Option Int :=
  match op with
  | .add => some (k.wrap (a + b))
  | .sub => some (k.wrap (a - b))
  | .mul => some (k.wrap (a * b))
  | _ => none

def isCmp : BinOp → Bool
  | .eql | .neq | .lss | .leq | .gtr | .geq => true
  | _ => false

/-- A slice and nil. -/
def nilA : AV → AV → Option AV
  | .slice a _ _, .nils => some (.sb fun _ => (a ()).isNone)
  | .nils, .nils => some .tt
  | _, _ => none

def binA (T : Tbl) (op : BinOp) (t : Nat) (x y : AV) : Option AV :=
  if isCmp op then
    match x, y with
    | .agg l, .agg m =>
      match T.eqk t, op with
      | some ks, .eql => eqA ks false l m
      | some ks, .neq => eqA ks true l m
      | _, _ => none
    | x, y =>
      match (T.ty t).map TI.k, op with
      | some .bool, .eql => boolA false x y
      | some .bool, .neq => boolA true x y
      | some (.slice _), .eql => nilA x y
      | _, _ => cmpA op x y
  else
    match x.lit, y.lit with
    | some (k, a), some (k', b) => if k = k' then (litF op k a b).map (.int k) else none
    | _, _ => none

def spliceA (c : List AV) (off : Nat) (v : List AV) : List AV := c.take off ++ v ++ c.drop (off + v.length)

def buildA (fs : List FI) : List AV → List (Nat × AV) → Option (List AV)
  | c, [] => some c
  | c, (i, x) :: r =>
    match fs[i]?, x.cellsA with
    | some f, some l => if l.length = f.size ∧ f.off + f.size ≤ c.length then buildA fs (spliceA c f.off l) r else none
    | _, _ => none

def AV.known : AV → Bool
  | .any => false
  | _ => true

/-- The value of an operation that hangs on its operands and on local variables alone. -/
def valF (T : Tbl) (op : Op) (ev : Operand → AV) (ob : Nat → Ob) : Option AV :=
  match op with
  | .move x | .assign x => some (ev x)
  | .pick c a b =>
    match ev c with
    | .tt => some (ev a)
    | .ff => some (ev b)
    | _ => none
  | .load t a =>
    match ev a with
    | .ptr id off =>
      match ob id, T.ty t with
      | .cells _ c, some i =>
        if i.k.agg then
          let l := (c.drop off).take i.size
          if l.length = i.size then some (if AV.sureL l then .agg l else .any) else none
        else c[off]?
      | _, _ => none
    | _ => none
  | .fieldAddr t x i =>
    match (T.ty t).map TI.k with
    | some (.struct fs) =>
      match fs[i]?, ev x with
      | some f, .ptr id off => if f.size = 0 then none else some (.ptr id (off + f.off))
      | some f, .el b o => if f.size = 0 then none else some (.el b fun _ => o () + f.off)
      | _, _ => none
    | _ => none
  | .field t x i =>
    match (T.ty t).map TI.k with
    | some (.struct fs) =>
      match fs[i]?, ev x with
      | some f, .agg l =>
        if f.agg then
          let m := (l.drop f.off).take f.size
          if f.size ≠ 0 ∧ f.off + f.size ≤ l.length then some (.agg m) else none
        else if f.ok then l[f.off]? else none
      | _, _ => none
    | _ => none
  | .extract x i =>
    match ev x with
    | .tup l => l[i]?
    | _ => none
  | .unOp .not _ x =>
    match ev x with
    | .tt => some .ff
    | .ff => some .tt
    | .sb b => some (.sb fun _ => !b ())
    | _ => none
  | .binOp op t x y _ => binA T op t (ev x) (ev y)
  | .convert src dst x =>
    match ev x, (T.ty src).isSome, (T.ty dst).map TI.k with
    | .int _ n, true, some (.int k) => some (.int k (k.wrap n))
    | _, _, _ => none
  | .makeFunc fn first cap =>
    let f := first.toList.map ev
    let c := cap.toList.map ev
    if AV.sureL f && AV.sureL c then some (.clo fn f c) else none
  | .nilCheck x =>
    match ev x with
    | .ptr id off => some (.ptr id off)
    | .el b o => some (.el b o)
    | .clo (.func f) a b => some (.clo (.func f) a b)
    | _ => none
  | .build t parts =>
    match T.ty t with
    | some i =>
      match i.k with
      | .struct fs =>
        if fs.all (fun f => decide (f.size ≠ 0)) then
        match buildA fs i.zero (parts.toList.map fun (i, x) => (i, ev x)) with
        | some l => some (if AV.sureL l then .agg l else .any)
        | none => none
        else none
      | _ => none
    | none => none
  | .call { callee := .builtin .len, args, argTypes } =>
    match args.toList, argTypes.toList with
    | [x], [t] =>
      match (T.ty t).map TI.k, ev x with
      | some (.slice _), .slice _ n _ => some (.sym .i64 fun _ => (n () : Int))
      | some (.slice _), .nils => some (.int .i64 0)
      | _, _ => none
    | _, _ => none
  | _ => none

def allocF (T : Tbl) (op : Op) (ev : Operand → AV) : Option (Nat × List AV) :=
  match op with
  | .alloc t => (T.ty t).map fun i => (t, i.zero)
  | .box t x => (ev x).cellsA.map fun l => (t, l)
  | _ => none

def storeF (T : Tbl) (op : Op) (ev : Operand → AV) (ob : Nat → Ob) : Option (Nat × Nat × List AV) :=
  match op with
  | .store t a x =>
    match ev a with
    | .ptr id off =>
      match ob id, T.ty t with
      | .cells U c, some i =>
        match (ev x).cellsA with
        | some l => if l.length = i.size ∧ off + l.length ≤ c.length ∧ l.all AV.one then some (id, U, spliceA c off l) else none
        | none => none
      | _, _ => none
    | _ => none
  | _ => none

/-- n elements of so many cells. -/
def repL (n : Nat) (z : List AV) : List AV :=
  match n with
  | 0 => []
  | n + 1 => z ++ repL n z

def fillA (sz : Nat) : List AV → List (Nat × AV) → Option (List AV)
  | c, [] => some c
  | c, (i, x) :: r =>
    match x.cellsA with
    | some l => if l.length = sz ∧ i * sz + sz ≤ c.length then fillA sz (spliceA c (i * sz) l) r else none
    | none => none

def newF (T : Tbl) (op : Op) (ev : Operand → AV) : Option NewI :=
  match op with
  | .buildSlice t n parts =>
    match (T.ty t).map TI.k with
    | some (.slice e) =>
      match T.ty e with
      | some i =>
        match fillA i.size (repL n i.zero) (parts.toList.map fun (i, x) => (i, ev x)) with
        | some l =>
          if AV.sureL l && AV.wfL (fun _ => false) l && decide (n * i.size ≤ 16777216) && decide (i.size ≠ 0) && decide (i.zero.length = i.size) then
            some { T := e, N := fun _ => n * i.size, cells := l, more := fun _ => [], r := fun b => .slice (fun _ => some ⟨b, 0, none⟩) (fun _ => n) (fun _ => n), side := fun _ => True }
          else none
        | none => none
      | none => none
    | _ => none
  | .makeSlice t l c =>
    match (T.ty t).map TI.k with
    | some (.slice e) =>
      match T.ty e, (ev l).asI, (ev c).asI with
      | some i, some (_, n), some (_, m) =>
        some { T := e, N := fun _ => (m ()).toNat * i.size, cells := [], more := fun _ => (madeCells (AV.denL (fun _ => 0) i.zero).toArray ((m ()).toNat * i.size)).toList, r := fun b => .slice (fun _ => some ⟨b, 0, none⟩) (fun _ => (n ()).toNat) (fun _ => (m ()).toNat),
               side := fun _ => 0 ≤ n () ∧ n () ≤ m () ∧ m () * i.bytes ≤ 281474976710656 ∧ m () ≤ 9223372036854775807 }
      | _, _, _ => none
    | _ => none
  | _ => none

def info (T : Tbl) : Info where
  alloc o s := allocF T o.op s.eval
  store o s := storeF T o.op s.eval s.ob
  new o s := newF T o.op s.eval
  val o s := valF T o.op s.eval s.ob

end Go.SX
