/- Stores into memory; local variables that are handed on; how lists lie in memory. -/
import Derived.Test.YtojdihbanakhgaaSxN
namespace Go.SX

section
variable {c : Ct} {M : Mem}

/-! ### Stores -/

theorem store_row {b o : Nat} {T : Nat} {vs cs r : List Value} {w : World} (hw : w.heap[b]? = some (.cells (cs ++ r).toArray T (0, 0))) (ho : o + vs.length ≤ cs.length) (h1 : ∀ v ∈ vs, v.oneCell' = true) :
    ∃ w', (storeCells ⟨b, o, none⟩ vs).run PR w = .ok () w' ∧ w'.heap[b]? = some (.cells (spliceV cs o vs ++ r).toArray T (0, 0)) ∧ w'.os = w.os ∧ w'.tape = w.tape ∧ w'.output = w.output ∧ w'.heap.size = w.heap.size ∧ ∀ k, k ≠ b → w'.heap[k]? = w.heap[k]? := by
  have h := run_storeCells_at PR b o T vs 0 _ w hw (by simp; omega) h1
  refine ⟨_, h, ?_, rfl, rfl, rfl, by simp, fun k hk => setRow_other w b k _ hk⟩
  rw [setRow_heap w b _ _ T _ hw]
  congr 2
  have e1 : (cs ++ r).take (o + 0) = cs.take o := by rw [Nat.add_zero, List.take_append_of_le_length (by omega)]
  have e2 : (cs ++ r).drop (o + 0 + vs.length) = cs.drop (o + vs.length) ++ r := by rw [Nat.add_zero, List.drop_append_of_le_length (by omega)]
  simp only [e1, e2, spliceV, List.append_assoc]

theorem Grow.write {M : Mem} {b : Nat} {f f' : Frag} {w w' : World} (hm : M.on w) (hM : M b = some f) (hB : c.B0 ≤ b ∨ c.lent b = true) (hon : f'.on w'.heap[b]?) (h1 : w'.os = w.os) (h2 : w'.tape = w.tape) (h3 : w'.output = w.output) (h4 : w'.heap.size = w.heap.size) (hz : ∀ off, frozAt w.heap[b]? off = false) (hz' : ∀ off, frozAt w'.heap[b]? off = false)
    (h5 : ∀ k, k ≠ b → w'.heap[k]? = w.heap[k]?) : Grow c true M w (M.set b f') w' := by
  refine ⟨(fun e => by cases e), fun k g hk => ?_, h1, h2, h3, froz_of h5 hz' hz, by omega, fun k hk ho => h5 k fun e => ?_, fun k hk => ?_⟩
  · unfold Mem.set at hk
    by_cases e : k = b
    · subst e; simp at hk; subst hk; exact hon
    · rw [if_neg e] at hk; rw [h5 k e]; exact hm k g hk
  · subst e
    rcases ho with ho | ho
    · rw [hM] at ho; cases ho
    · obtain ⟨o1, o2⟩ := ho
      rcases hB with hB | hB
      · omega
      · rw [hB] at o2; cases o2
  · unfold Mem.set at hk
    by_cases e : k = b
    · subst e; left; rw [hM]; simp
    · rw [if_neg e] at hk; exact .inl hk

theorem ones_den {l : List AV} (h : l.all AV.one = true) : ∀ v ∈ AV.denL (fun _ => 0) l, v.oneCell' = true := fun v hv => by
  rw [AV.denL_eq] at hv
  obtain ⟨x, hx, rfl⟩ := List.mem_map.1 hv
  exact one_den (List.all_eq_true.1 h x hx)

theorem StoreS.row {b o : Unit → Nat} {l : List AV} {p : Mem → Prop} {T N : Nat} {cs : List Value} (hM : M (b ()) = some (.row T N cs)) (hB : c.B0 ≤ b () ∨ c.lent (b ()) = true) (ho : o () + l.length ≤ cs.length) (h1 : l.all AV.one = true)
    (hp : p (M.set (b ()) (.row T N (spliceV cs (o ()) (AV.denL (fun _ => 0) l))))) : StoreS c b o l M p := by
  refine ⟨_, fun w hm _ => ?_, hp⟩
  obtain ⟨r, hw, hr⟩ := on_row hm hM
  have hlen : o () + (AV.denL (fun _ => 0) l).length ≤ cs.length := by rw [denL_length]; exact ho
  obtain ⟨w', k1, k2, k3, k4, k5, k6, k7⟩ := store_row hw hlen (ones_den h1)
  refine ⟨w', k1, Grow.write hm hM hB ⟨r, k2, ?_⟩ k3 k4 k5 k6 (fun off => by rw [hw]; exact frozAt_z off) (fun off => by rw [k2]; exact frozAt_z off) k7⟩
  rw [List.length_append, length_spliceV hlen, ← List.length_append]; exact hr

theorem StoreS.obj {b o : Unit → Nat} {l : List AV} {p : Mem → Prop} {T : Nat} {cs : List Value} (hM : M (b ()) = some (.obj (.cells cs.toArray T (0, 0)))) (hB : c.B0 ≤ b () ∨ c.lent (b ()) = true) (ho : o () + l.length ≤ cs.length) (h1 : l.all AV.one = true)
    (hp : p (M.set (b ()) (.obj (.cells (spliceV cs (o ()) (AV.denL (fun _ => 0) l)).toArray T (0, 0))))) : StoreS c b o l M p := by
  refine ⟨_, fun w hm _ => ?_, hp⟩
  have hw : w.heap[b ()]? = some (.cells (cs ++ []).toArray T (0, 0)) := by rw [List.append_nil]; exact hm _ _ hM
  have hlen : o () + (AV.denL (fun _ => 0) l).length ≤ cs.length := by rw [denL_length]; exact ho
  obtain ⟨w', k1, k2, k3, k4, k5, k6, k7⟩ := store_row hw hlen (ones_den h1)
  rw [List.append_nil] at k2
  exact ⟨w', k1, Grow.write hm hM hB k2 k3 k4 k5 k6 (fun off => by rw [hw]; exact frozAt_z off) (fun off => by rw [k2]; exact frozAt_z off) k7⟩

/-! ### A local variable becomes memory -/

mutual
def sealA (id b : Nat) : AV → AV
  | .ptr i off => if i = id then .el (fun _ => b) (fun _ => off) else .ptr i off
  | .tup l => .tup (sealL id b l)
  | .agg l => .agg (sealL id b l)
  | .clo f x y => .clo f (sealL id b x) (sealL id b y)
  | .any => .any
  | .v x => .v x
  | .tt => .tt
  | .ff => .ff
  | .sb x => .sb x
  | .int k n => .int k n
  | .sym k n => .sym k n
  | .el x y => .el x y
  | .slice a n k => .slice a n k
  | .nils => .nils
def sealL (id b : Nat) : List AV → List AV
  | [] => []
  | x :: l => sealA id b x :: sealL id b l
end

theorem sealL_eq (id b : Nat) (l : List AV) : sealL id b l = l.map (sealA id b) := by
  induction l with
  | nil => rfl
  | cons x l ih => simp [sealL, ih]

mutual
theorem sealA_den {id b : Nat} {ρ : Nat → Nat} (h : ρ id = b) : ∀ x : AV, (sealA id b x).den ρ = x.den ρ
  | .ptr i off => by
    simp only [sealA]
    split
    · rename_i e; subst e; simp [AV.den, h]
    · rfl
  | .tup l => by simp only [sealA, AV.den, sealL_den h l]
  | .agg l => by simp only [sealA, AV.den, sealL_den h l]
  | .clo f x y => by simp only [sealA, AV.den, sealL_den h x, sealL_den h y]
  | .any | .v _ | .tt | .ff | .sb _ | .int _ _ | .sym _ _ | .el _ _ | .slice _ _ _ | .nils => by simp only [sealA]
theorem sealL_den {id b : Nat} {ρ : Nat → Nat} (h : ρ id = b) : ∀ l : List AV, AV.denL ρ (sealL id b l) = AV.denL ρ l
  | [] => rfl
  | x :: l => by simp only [sealL, AV.denL, sealA_den h x, sealL_den h l]
end

mutual
theorem sealA_wf {id b : Nat} {p q : Nat → Bool} (h : ∀ i, p i = true → i ≠ id → q i = true) : ∀ x : AV, x.wf p = true → (sealA id b x).wf q = true
  | .ptr i off, hx => by
    simp only [sealA]
    split
    · rfl
    · rename_i e; simp only [AV.wf] at hx ⊢; exact h i hx e
  | .tup l, hx => by simp only [sealA, AV.wf] at hx ⊢; exact sealL_wf h l hx
  | .agg l, hx => by simp only [sealA, AV.wf] at hx ⊢; exact sealL_wf h l hx
  | .clo f x y, hx => by
    simp only [sealA, AV.wf, Bool.and_eq_true] at hx ⊢
    exact ⟨sealL_wf h x hx.1, sealL_wf h y hx.2⟩
  | .any, _ | .v _, _ | .tt, _ | .ff, _ | .sb _, _ | .int _ _, _ | .sym _ _, _ | .el _ _, _ | .slice _ _ _, _ | .nils, _ => rfl
theorem sealL_wf {id b : Nat} {p q : Nat → Bool} (h : ∀ i, p i = true → i ≠ id → q i = true) : ∀ l : List AV, AV.wfL p l = true → AV.wfL q (sealL id b l) = true
  | [], _ => rfl
  | x :: l, hx => by
    simp only [sealL, AV.wfL, Bool.and_eq_true] at hx ⊢
    exact ⟨sealA_wf h x hx.1, sealL_wf h l hx.2⟩
end

theorem sealA_any {id b : Nat} {x : AV} (h : sealA id b x ≠ .any) : x ≠ .any := fun e => by subst e; exact h rfl

theorem sealA_Den {id b : Nat} {ρ : Nat → Nat} (h : ρ id = b) {x : AV} {v : Value} (hd : Den ρ x v) : Den ρ (sealA id b x) v := by
  rcases hd with hd | hd
  · left; rw [hd]; rfl
  · right; rw [sealA_den h]; exact hd

theorem sealL_DenL {id b : Nat} {ρ : Nat → Nat} (h : ρ id = b) : ∀ {l : List AV} {k : List Value}, DenL ρ l k → DenL ρ (sealL id b l) k
  | [], [], _ => trivial
  | _ :: _, _ :: _, hd => ⟨sealA_Den h hd.1, sealL_DenL h hd.2⟩
  | [], _ :: _, hd => hd.elim
  | _ :: _, [], hd => hd.elim

def sealO (id b : Nat) : Ob → Ob
  | .none => .none
  | .cells T l => .cells T (sealL id b l)

/-- Local variable id is memory block b, which holds l. -/
def sealS (id b T : Nat) (l : List AV) (s : S) : S :=
  ⟨sealL id b s.tmps, (s.objs.map (sealO id b)).set id .none, s.M.set b (.obj (.cells (AV.vals l) T (0, 0)))⟩

theorem sealS_get (id b T : Nat) (l : List AV) (s : S) (t : Nat) : (sealS id b T l s).get t = sealA id b (s.get t) := by
  simp only [S.get, sealS, sealL_eq, List.getD_eq_getElem?_getD, List.getElem?_map]
  cases s.tmps[t]? <;> rfl

theorem sealS_ob (id b T : Nat) (l : List AV) (s : S) (i : Nat) : (sealS id b T l s).ob i = if i = id then .none else sealO id b (s.ob i) := by
  simp only [S.ob, sealS, List.getD_eq_getElem?_getD, List.getElem?_set, List.getElem?_map, List.length_map]
  by_cases e : id = i
  · subst e
    simp only [if_true]
    split <;> rfl
  · rw [if_neg e, if_neg (Ne.symm e)]
    cases s.objs[i]? <;> rfl

theorem sealO_none {id b : Nat} {o : Ob} : sealO id b o = .none ↔ o = .none := by cases o <;> simp [sealO]

theorem OKS.shutIn {f : Nat} {K : S → AV → Prop} {stk : List It} {s : S} (id : Nat) {T : Nat} {l : List AV} (hob : s.ob id = .cells T l) (hl : AV.groundL l = true)
    (h : ∀ b, s.M b = none → c.B0 ≤ b → OKS f c K stk (sealS id b T l s)) : OKS f c K stk s := by
  refine ⟨fun bf cs ρ a w h1 h2 hw hg => ?_⟩
  obtain ⟨cv, k1, k2, k3, k4⟩ := hg.ob id T l hob
  simp only [AV.groundL, Bool.and_eq_true] at hl
  have hcv : cv = AV.denL (fun _ => 0) l := (DenL.sure hl.1 k2).trans (AV.denL_congr (p := fun _ => false) (fun i hi => by cases hi) l hl.2)
  have lv : ∀ i, (sealS id (ρ id) T l s).live i = true ↔ s.live i = true ∧ i ≠ id := fun i => by
    unfold S.live
    rw [sealS_ob]
    by_cases e : i = id
    · simp [e, Ob.live]
    · rw [if_neg e]
      cases s.ob i <;> simp [sealO, Ob.live, e]
  have hidl : s.live id = true := by simp [S.live, hob, Ob.live]
  have hM : s.M.le (s.M.set (ρ id) (.obj (.cells (AV.vals l) T (0, 0)))) := Mem.le_set k3
  refine (h (ρ id) k3 k4).ok bf cs ρ a w h1 h2 ⟨fun t => ?_, fun i U k hi => ?_, ?_⟩ ⟨?_, fun t => ?_, hg.defers, ?_, fun i U k hi => ?_, fun i j hi hj => hg.inj i j ((lv i).1 hi).1 ((lv j).1 hj).1, hg.fr, fun b hb => ?_⟩
  · rw [sealS_get]; exact sealA_wf (fun i hi hne => (lv i).2 ⟨hi, hne⟩) _ (hw.tmps t)
  · rw [sealS_ob] at hi
    by_cases e : i = id
    · rw [if_pos e] at hi; cases hi
    · rw [if_neg e] at hi
      cases ho : s.ob i with
      | none => rw [ho] at hi; cases hi
      | cells U' k' =>
        rw [ho] at hi; cases hi
        exact sealL_wf (fun i hi hne => (lv i).2 ⟨hi, hne⟩) _ (hw.objs i _ _ ho)
  · simp only [sealS, sealL_eq, List.length_map, List.length_set]; exact hw.len
  · simp only [sealS, sealL_eq, List.length_map]; exact hg.tsz
  · rw [sealS_get]; exact sealA_Den rfl (hg.tmp t)
  · refine Mem.on_set hg.mem ?_
    show _ = _
    rw [k1, hcv]; rfl
  · rw [sealS_ob] at hi
    by_cases e : i = id
    · rw [if_pos e] at hi; cases hi
    · rw [if_neg e] at hi
      cases ho : s.ob i with
      | none => rw [ho] at hi; cases hi
      | cells U' k' =>
        rw [ho] at hi; cases hi
        obtain ⟨cs', j1, j2, j3, j4⟩ := hg.ob i _ _ ho
        refine ⟨cs', j1, sealL_DenL rfl j2, ?_, j4⟩
        have hne : ρ i ≠ ρ id := fun e' => e (hg.inj i id (by simp [S.live, ho, Ob.live]) hidl e')
        simp [sealS, Mem.set, hne, j3]
  · simp only [sealS, Mem.set] at hb
    by_cases e : b = ρ id
    · subst e
      exact .inr k4
    · rw [if_neg e] at hb; exact hg.new b hb

end
end Go.SX
