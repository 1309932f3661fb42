/- How lists lie in memory; arithmetic without overflow. -/
import Derived.Test.YtojdihbanakhgaaSxO
import Derived.Laws.BitsLemmas
import Derived.Laws.Bits64
namespace Go.SX

/-! ### Arithmetic -/

def I64 (x : Int) : Prop := -9223372036854775808 ≤ x ∧ x < 9223372036854775808
def U64 (x : Int) : Prop := 0 ≤ x ∧ x < 18446744073709551616

theorem wrap_i64 {x : Int} (h1 : -9223372036854775808 ≤ x) (h2 : x < 9223372036854775808) : IntKind.i64.wrap x = x := by
  rw [IntKind.wrap_i64]; omega
theorem wrap_u64 {x : Int} (h1 : 0 ≤ x) (h2 : x < 18446744073709551616) : IntKind.u64.wrap x = x := by
  rw [IntKind.wrap_u64]; omega
theorem wrap_u64_mod (x : Int) : IntKind.u64.wrap x = x % 18446744073709551616 := IntKind.wrap_u64 x

theorem ArS.i64 {e : Unit → Int} {p : (Unit → Int) → Prop} (n : Int) (he : e () = n) (h1 : -9223372036854775808 ≤ n) (h2 : n < 9223372036854775808) (hp : p (fun _ => n)) : ArS .i64 e p :=
  .mk n (by rw [he]; exact wrap_i64 h1 h2) hp
theorem ArS.u64 {e : Unit → Int} {p : (Unit → Int) → Prop} (n : Int) (he : e () = n) (h1 : 0 ≤ n) (h2 : n < 18446744073709551616) (hp : p (fun _ => n)) : ArS .u64 e p :=
  .mk n (by rw [he]; exact wrap_u64 h1 h2) hp
theorem ArS.u64m {e : Unit → Int} {p : (Unit → Int) → Prop} (n : Int) (he : e () = n) (hp : p (fun _ => n % 18446744073709551616)) : ArS .u64 e p :=
  .mk _ (by rw [he]; exact wrap_u64_mod n) hp

theorem ArS.nat {e : Unit → Int} {p : (Unit → Int) → Prop} (n : Nat) (he : e () = (n : Int)) (h2 : n < 18446744073709551616) (hp : p (fun _ => (n : Int))) : ArS .u64 e p :=
  .u64 n he (by omega) (by omega) hp
theorem nc (n : Nat) : (NatCast.natCast n : Int) = (n : Int) := rfl
theorem ArS.u8N {e : Unit → Int} {p : (Unit → Int) → Prop} (n : Nat) (he : e () = (n : Int)) (h2 : n < 256) (hp : p (fun _ => (n : Int))) : ArS .u8 e p :=
  .mk n (by rw [he, IntKind.wrap_u8]; omega) hp
theorem BitS.low32 {a b : Unit → Int} {p : (Unit → Int) → Prop} (x : Nat) (ha : a () = (x : Int)) (hb : b () = 4294967295) (hx : x < 18446744073709551616) (hp : p (fun _ => ((x % 4294967296 : Nat) : Int))) : BitS .and .u64 a b p := by
  refine .mk _ ?_ hp
  rw [ha, hb]
  simp only [bitF, Option.some.injEq]
  have h1 : (BitVec.ofInt 64 (x : Int)).toNat = x := by simp; omega
  have h2 : (BitVec.ofInt 64 (x : Int) &&& BitVec.ofInt 64 4294967295).toNat = x % 4294967296 := by
    rw [BitVec.toNat_and, h1]
    have : (BitVec.ofInt 64 4294967295).toNat = 2 ^ 32 - 1 := by decide
    rw [this, Nat.and_two_pow_sub_one_eq_mod]
  show IntKind.u64.wrap ((BitVec.ofInt 64 (x : Int) &&& BitVec.ofInt 64 4294967295).toNat : Int) = _
  rw [h2]
  exact wrap_u64 (by omega) (by omega)
theorem BitS.orN {a b : Unit → Int} {p : (Unit → Int) → Prop} (x y z : Nat) (ha : a () = (x : Int)) (hb : b () = (y : Int)) (hx : x < 18446744073709551616) (hy : y < 18446744073709551616) (hz : z = x ||| y) (hp : p (fun _ => (z : Int))) : BitS .or .u64 a b p := by
  refine .mk _ ?_ hp
  rw [ha, hb]
  simp only [bitF, Option.some.injEq]
  have h1 : (BitVec.ofInt 64 (x : Int)).toNat = x := by simp; omega
  have h2 : (BitVec.ofInt 64 (y : Int)).toNat = y := by simp; omega
  have h3 : (BitVec.ofInt 64 (x : Int) ||| BitVec.ofInt 64 (y : Int)).toNat = x ||| y := by rw [BitVec.toNat_or, h1, h2]
  have h4 : x ||| y < 2 ^ 64 := Nat.or_lt_two_pow (by simpa using hx) (by simpa using hy)
  show IntKind.u64.wrap ((BitVec.ofInt 64 (x : Int) ||| BitVec.ofInt 64 (y : Int)).toNat : Int) = _
  rw [h3, hz]
  exact wrap_u64 (by omega) (by omega)
theorem ArS.natm {e : Unit → Int} {p : (Unit → Int) → Prop} (n : Nat) (m : Int) (he : e () = m) (hm : m % 18446744073709551616 = (n : Int)) (hp : p (fun _ => (n : Int))) : ArS .u64 e p :=
  .mk n (by rw [he, wrap_u64_mod, hm]) hp
theorem ShS.shrN {a b : Unit → Int} {p : (Unit → Int) → Prop} (x s q : Nat) (ha : a () = (x : Int)) (hb : b () = (s : Int)) (hs : s ≤ 64) (hq : q = x / 2 ^ s) (hp : p (fun _ => (q : Int))) : ShS .shr .u64 a b p := by
  refine .shr _ rfl (by rw [hb]; omega) ?_ hp
  rw [ha, hb]
  have : min (s : Int).toNat IntKind.u64.bits = s := by simp [IntKind.bits]; omega
  rw [this, hq]
  have h2 : ((2 : Int) ^ s) = ((2 ^ s : Nat) : Int) := by simp
  rw [h2]
  exact (Int.fdiv_eq_ediv_of_nonneg _ (Int.natCast_nonneg _)).trans (Int.natCast_ediv _ _).symm
theorem ShS.shlN {a b : Unit → Int} {p : (Unit → Int) → Prop} (x s q : Nat) (ha : a () = (x : Int)) (hb : b () = (s : Int)) (hs : s ≤ 64) (hq : q = x * 2 ^ s % 18446744073709551616) (hp : p (fun _ => (q : Int))) : ShS .shl .u64 a b p := by
  refine .shl _ rfl (by rw [hb]; omega) ?_ hp
  rw [ha, hb]
  have : min (s : Int).toNat IntKind.u64.bits = s := by simp [IntKind.bits]; omega
  rw [this, hq, wrap_u64_mod]
  have h2 : (x : Int) * ((2 : Int) ^ s) = ((x * 2 ^ s : Nat) : Int) := by simp
  rw [h2]
  omega
theorem DivS.quoN {a b : Unit → Int} {p : (Unit → Int) → Prop} (x y : Nat) (ha : a () = (x : Int)) (hb : b () = (y : Int)) (hy : 0 < y) (hx : x < 18446744073709551616) (hp : p (fun _ => ((x / y : Nat) : Int))) : DivS .quo .u64 a b p := by
  refine .quo _ rfl (by rw [hb]; omega) ?_ hp
  rw [ha, hb, Int.tdiv_eq_ediv_of_nonneg (by omega), ← Int.natCast_ediv]
  have : x / y ≤ x := Nat.div_le_self _ _
  generalize x / y = q at *
  exact wrap_u64 (by omega) (by omega)
theorem DivS.remN {a b : Unit → Int} {p : (Unit → Int) → Prop} (x y : Nat) (ha : a () = (x : Int)) (hb : b () = (y : Int)) (hy : 0 < y) (hp : p (fun _ => ((x % y : Nat) : Int))) : DivS .rem .u64 a b p := by
  refine .rem _ rfl (by rw [hb]; omega) ?_ hp
  rw [ha, hb, Int.tmod_eq_emod_of_nonneg (by omega), ← Int.natCast_emod]

/-! ### Lists side by side -/

def All2 {α β : Type} (R : α → β → Prop) : List α → List β → Prop
  | [], [] => True
  | a :: l, b :: m => R a b ∧ All2 R l m
  | _, _ => False

namespace All2
variable {α β : Type} {R R' : α → β → Prop}

theorem length : ∀ {l : List α} {m : List β}, All2 R l m → l.length = m.length
  | [], [], _ => rfl
  | _ :: _, _ :: _, h => by simp [length h.2]
  | [], _ :: _, h => h.elim
  | _ :: _, [], h => h.elim

theorem mono (hR : ∀ a b, R a b → R' a b) : ∀ {l : List α} {m : List β}, All2 R l m → All2 R' l m
  | [], [], _ => trivial
  | _ :: _, _ :: _, h => ⟨hR _ _ h.1, mono hR h.2⟩
  | [], _ :: _, h => h.elim
  | _ :: _, [], h => h.elim

theorem get : ∀ {l : List α} {m : List β} {i : Nat} {b : β}, All2 R l m → m[i]? = some b → ∃ a, l[i]? = some a ∧ R a b
  | [], [], i, b, _, h => by simp at h
  | a :: l, b' :: m, 0, b, h, e => by simp at e; subst e; exact ⟨a, rfl, h.1⟩
  | a :: l, b' :: m, i + 1, b, h, e => by simp at e; simpa using get h.2 e
  | [], _ :: _, _, _, h, _ => h.elim
  | _ :: _, [], _, _, h, _ => h.elim

theorem append : ∀ {l l' : List α} {m m' : List β}, All2 R l m → All2 R l' m' → All2 R (l ++ l') (m ++ m')
  | [], _, [], _, _, h => h
  | _ :: _, _, _ :: _, _, h, h' => ⟨h.1, append h.2 h'⟩
  | [], _, _ :: _, _, h, _ => h.elim
  | _ :: _, _, [], _, h, _ => h.elim

theorem one {a : α} {b : β} (h : R a b) : All2 R [a] [b] := ⟨h, trivial⟩

theorem take : ∀ (n : Nat) {l : List α} {m : List β}, All2 R l m → All2 R (l.take n) (m.take n)
  | 0, _, _, _ => by simp [All2]
  | n + 1, [], [], _ => by simp [All2]
  | n + 1, _ :: _, _ :: _, h => ⟨h.1, take n h.2⟩
  | _ + 1, [], _ :: _, h => h.elim
  | _ + 1, _ :: _, [], h => h.elim

theorem drop : ∀ (n : Nat) {l : List α} {m : List β}, All2 R l m → All2 R (l.drop n) (m.drop n)
  | 0, _, _, h => by simpa using h
  | n + 1, [], [], _ => by simp [All2]
  | n + 1, _ :: _, _ :: _, h => by simpa using drop n h.2
  | _ + 1, [], _ :: _, h => h.elim
  | _ + 1, _ :: _, [], h => h.elim

theorem set : ∀ {l : List α} {m : List β} (i : Nat) {a : α} {b : β}, All2 R l m → R a b → All2 R (l.set i a) (m.set i b)
  | [], [], _, _, _, _, _ => trivial
  | _ :: _, _ :: _, 0, _, _, h, r => ⟨r, h.2⟩
  | _ :: _, _ :: _, i + 1, _, _, h, r => ⟨h.1, set i h.2 r⟩
  | [], _ :: _, _, _, _, h, _ => h.elim
  | _ :: _, [], _, _, _, h, _ => h.elim
end All2

/-! ### Cells -/

theorem CellsAt.append {M : Mem} : ∀ {l m : List Value} {b o : Nat}, CellsAt M b o (l ++ m) ↔ CellsAt M b o l ∧ CellsAt M b (o + l.length) m
  | [], m, b, o => by simp [CellsAt]
  | x :: l, m, b, o => by
    simp only [List.cons_append, CellsAt, CellsAt.append (l := l), List.length_cons, and_assoc]
    have : o + 1 + l.length = o + (l.length + 1) := by omega
    rw [this]

theorem CellsAt.le {M M' : Mem} (h : M.le M') : ∀ {l : List Value} {b o : Nat}, CellsAt M b o l → CellsAt M' b o l
  | [], _, _, _ => trivial
  | _ :: _, _, _, hc => ⟨Mem.cell_le h hc.1, CellsAt.le h hc.2⟩

theorem CellsAt.of_get {M : Mem} : ∀ {l : List Value} {b o : Nat}, (∀ j v, l[j]? = some v → M.cell b (o + j) = some v) → CellsAt M b o l
  | [], _, _, _ => trivial
  | v :: l, b, o, h => ⟨by simpa using h 0 v rfl, CellsAt.of_get fun j u hj => by have := h (j + 1) u (by simpa using hj); rwa [show o + (j + 1) = o + 1 + j by omega] at this⟩

theorem CellsAt.row {M : Mem} {b T N : Nat} {cs : List Value} (h : M b = some (.row T N cs)) : CellsAt M b 0 cs :=
  CellsAt.of_get fun j v hj => by simp [Mem.cell, h, hj]

theorem CellsAt.chunk {M : Mem} {b sz : Nat} : ∀ {cs : List (List Value)} {o i : Nat} {x : List Value}, (∀ x ∈ cs, x.length = sz) → CellsAt M b o cs.flatten → cs[i]? = some x → CellsAt M b (o + i * sz) x
  | [], _, _, _, _, _, h => by simp at h
  | y :: cs, o, 0, x, hs, hc, h => by
    simp at h; subst h
    rw [List.flatten_cons, CellsAt.append] at hc
    simpa using hc.1
  | y :: cs, o, i + 1, x, hs, hc, h => by
    rw [List.flatten_cons, CellsAt.append] at hc
    have hy := hs y (by simp)
    have := CellsAt.chunk (cs := cs) (o := o + y.length) (i := i) (x := x) (fun z hz => hs z (by simp [hz])) hc.2 (by simpa using h)
    rw [hy] at this
    rwa [show o + (i + 1) * sz = o + sz + i * sz by rw [Nat.add_mul]; omega]

/-! ### Slices -/

section
variable {α : Type}

/-- How an element lies in memory. -/
abbrev ElR (α : Type) := Mem → List Value → α → Prop

/-- That an element that lies in memory lies there in a greater one. -/
def ElR.Up (R : ElR α) : Prop := ∀ M M' : Mem, M.le M' → ∀ c x, R M c x → R M' c x

/-- A slice (its address, its length, its capacity) reads as a list. -/
structure RdL (R : ElR α) (sz : Nat) (M : Mem) (a : Option Addr) (n cap : Nat) (l : List α) : Prop where
  len : n = l.length
  le : l.length ≤ cap
  nil : a = none → cap = 0
  els : ∃ cs : List (List Value), All2 (fun c x => c.length = sz ∧ R M c x) cs l ∧ (l ≠ [] → ∃ b o, a = some ⟨b, o, none⟩ ∧ CellsAt M b o cs.flatten)

def RdS (R : ElR α) (sz : Nat) (M : Mem) (v : Value) (l : List α) : Prop := ∃ a cap, v = .slice a l.length cap ∧ RdL R sz M a l.length cap l

theorem RdL.up {R : ElR α} (hR : R.Up) {sz : Nat} {M M' : Mem} (h : M.le M') {a : Option Addr} {n cap : Nat} {l : List α} (hr : RdL R sz M a n cap l) : RdL R sz M' a n cap l :=
  ⟨hr.len, hr.le, hr.nil, let ⟨cs, h1, h2⟩ := hr.els; ⟨cs, h1.mono fun c x ⟨k1, k2⟩ => ⟨k1, hR _ _ h c x k2⟩, fun hl => let ⟨b, o, e, hc⟩ := h2 hl; ⟨b, o, e, hc.le h⟩⟩⟩

theorem RdS.up {R : ElR α} (hR : R.Up) {sz : Nat} {M M' : Mem} (h : M.le M') {v : Value} {l : List α} (hr : RdS R sz M v l) : RdS R sz M' v l :=
  let ⟨a, cap, e, h1⟩ := hr; ⟨a, cap, e, h1.up hR h⟩

theorem RdL.nil' (R : ElR α) (sz : Nat) (M : Mem) : RdL R sz M none 0 0 [] := ⟨rfl, by simp, fun _ => rfl, [], trivial, fun h => absurd rfl h⟩

/-- An element. -/
theorem RdL.at {R : ElR α} {sz : Nat} {M : Mem} {a : Option Addr} {n cap : Nat} {l : List α} (h : RdL R sz M a n cap l) {i : Nat} {x : α} (hi : l[i]? = some x) :
    ∃ b o c, a = some ⟨b, o, none⟩ ∧ c.length = sz ∧ R M c x ∧ CellsAt M b (o + i * sz) c := by
  obtain ⟨cs, h1, h2⟩ := h.els
  obtain ⟨b, o, e, hc⟩ := h2 (fun e => by subst e; simp at hi)
  obtain ⟨c, k1, k2, k3⟩ := h1.get hi
  refine ⟨b, o, c, e, k2, k3, CellsAt.chunk (fun y hy => ?_) hc k1⟩
  obtain ⟨j, hj⟩ := List.getElem?_of_mem hy
  have hlt : j < l.length := by rw [← h1.length]; exact (List.getElem?_eq_some_iff.1 hj).1
  obtain ⟨c', e1, e2, _⟩ := h1.get (List.getElem?_eq_getElem hlt)
  rw [hj] at e1; cases e1; exact e2

theorem RdL.take {R : ElR α} {sz : Nat} {M : Mem} {a : Option Addr} {n cap : Nat} {l : List α} (h : RdL R sz M a n cap l) (k : Nat) (hk : k ≤ l.length) : RdL R sz M a k cap (l.take k) := by
  obtain ⟨cs, h1, h2⟩ := h.els
  refine ⟨by simp [hk], by have := h.le; simp; omega, h.nil, cs.take k, h1.take k, fun hl => ?_⟩
  obtain ⟨b, o, e, hc⟩ := h2 (fun e => hl (by rw [e]; simp))
  refine ⟨b, o, e, ?_⟩
  have : cs.flatten = (cs.take k).flatten ++ (cs.drop k).flatten := by rw [← List.flatten_append, List.take_append_drop]
  rw [this, CellsAt.append] at hc
  exact hc.1

/-- What a call has made reads so. -/
theorem Own.rd {c : Ct} {R : ElR α} {sz e : Nat} {M : Mem} {a : Option Addr} {n cap : Nat} {xs : List Value} {l : List α} (h : Own c M e sz a n cap xs) {cs : List (List Value)} (hx : xs = cs.flatten) (hl : All2 (fun c x => c.length = sz ∧ R M c x) cs l) (hn : n = l.length) :
    RdL R sz M a n cap l := by
  refine ⟨hn, ?_, fun ha => ?_, cs, hl, fun hne => ?_⟩
  · rcases h.row with ⟨_, rfl, rfl⟩ | ⟨g, _, _, _, h1, _⟩ <;> omega
  · rcases h.row with ⟨_, _, rfl⟩ | ⟨g, e, _⟩
    · rfl
    · rw [e] at ha; cases ha
  · rcases h.row with ⟨_, rfl, _⟩ | ⟨g, e, _, h1, _⟩
    · exact absurd (List.eq_nil_of_length_eq_zero hn.symm) hne
    · exact ⟨g, 0, e, by rw [← hx]; exact CellsAt.row h1⟩

/-! ### Integers -/

def ElI (k : IntKind) (P : Int → Prop) : ElR Int := fun _ c x => c = [.int k x] ∧ P x
theorem ElI.up (k : IntKind) (P : Int → Prop) : (ElI k P).Up := fun _ _ _ _ _ h => h

end
end Go.SX
