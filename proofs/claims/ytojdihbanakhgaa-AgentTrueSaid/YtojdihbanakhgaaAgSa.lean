/- Made rows; stores; memory without a block. -/
import Derived.Test.YtojdihbanakhgaaAgQa
namespace Go.SX
open Go.Proofs.Try Go.Proofs

theorem flat_get (z : List Value) (hz : 0 < z.length) : ∀ (n j : Nat) (v : Value), ((List.replicate n z).flatten)[j]? = some v → j < n * z.length ∧ z[j % z.length]? = some v
  | 0, j, v, h => by simp at h
  | n + 1, j, v, h => by
    rw [List.replicate_succ, List.flatten_cons] at h
    by_cases hj : j < z.length
    · rw [List.getElem?_append_left hj] at h
      rw [Nat.mod_eq_of_lt hj, Nat.add_mul]
      exact ⟨by omega, h⟩
    · rw [List.getElem?_append_right (by omega)] at h
      obtain ⟨h1, h2⟩ := flat_get z hz n _ v h
      rw [Nat.mod_eq_sub_mod (by omega), Nat.add_mul]
      exact ⟨by omega, h2⟩

theorem all2_rep {α : Type} {R : ElR α} {M : Mem} {z : List Value} {x : α} (h : R M z x) : ∀ n, All2 (fun c x => c.length = z.length ∧ R M c x) (List.replicate n z) (List.replicate n x)
  | 0 => trivial
  | n + 1 => ⟨⟨rfl, h⟩, all2_rep h n⟩

theorem RdL.made {α : Type} {R : ElR α} {M : Mem} {z : List Value} {x : α} {b T N n k : Nat} (hz : 0 < z.length) (hM : M b = some (.row T N (madeCells z.toArray (n * z.length)).toList)) (hR : R M z x) (hk : n ≤ k) :
    RdL R z.length M (some ⟨b, 0, none⟩) n k (List.replicate n x) :=
  ⟨by simp, by simpa using hk, (fun h => by cases h), List.replicate n z, all2_rep hR n, fun _ => ⟨b, 0, rfl, CellsAt.of_get fun j v hj => by
    obtain ⟨h1, h2⟩ := flat_get z hz n j v hj
    have hm : j % z.length < z.length := Nat.mod_lt _ hz
    have e : z[j % z.length] = v := by rw [List.getElem?_eq_getElem hm] at h2; exact Option.some.inj h2
    have hj2 : j < (madeCells z.toArray (n * z.length)).toList.length := by simp [madeCells]; exact h1
    have h3 : (madeCells z.toArray (n * z.length)).toList[j]? = some v := by
      rw [List.getElem?_eq_getElem hj2]
      refine congrArg some ?_
      simp [madeCells, hm, e]
    simp only [Mem.cell, hM, Nat.zero_add]
    exact h3⟩⟩

theorem NewS.made {c : Ct} {M : Mem} {p : Mem → AV → Prop} {T size : Nat} {zero : List AV} {m : Unit → Int} {r : Nat → AV} {side : Unit → Prop} (n : Nat) (hm : m () = (n : Int)) (hs : side ())
    (hp : ∀ b M', M b = none → c.B0 ≤ b → (∃ N, M' = M.set b (.row T N (madeCells (AV.denL (fun _ => 0) zero).toArray (n * size)).toList)) → p M' (r b)) :
    NewS c ⟨T, fun _ => (m ()).toNat * size, [], fun _ => (madeCells (AV.denL (fun _ => 0) zero).toArray ((m ()).toNat * size)).toList, r, side⟩ M p :=
  .mk hs fun b M' h1 h2 h3 => hp b M' h1 h2 ⟨(m ()).toNat * size, by rw [h3]; simp [NewI.frag, AV.denL, hm]⟩

theorem StoreS.rowM {c : Ct} {M : Mem} {b o : Unit → Nat} {l : List AV} {p : Mem → Prop} {T N : Nat} {cs cs' : List Value} (hM : M (b ()) = some (.row T N cs)) (hB : c.B0 ≤ b () ∨ c.lent (b ()) = true) (ho : o () + l.length ≤ cs.length) (h1 : l.all AV.one = true)
    (hcs : spliceV cs (o ()) (AV.denL (fun _ => 0) l) = cs') (hp : ∀ M', M' = M.set (b ()) (.row T N cs') → p M') : StoreS c b o l M p := .row hM hB ho h1 (by rw [hcs]; exact hp _ rfl)

def zeroQ : QV := ⟨0, 0, R.zero, R.zero, R.zero⟩
def zeroC : CakeV := ⟨0, [], []⟩
theorem zeroQ_wf : zeroQ.Wf := ⟨by simp [zeroQ, I64], by simp [zeroQ], zeroR_wf, zeroR_wf, zeroR_wf⟩
theorem zeroC_ck (M : Mem) : Ck M ⟨0, none, 0, 0, none, 0, 0⟩ zeroC := ⟨rfl, by simp [zeroC, I64], RdL.nil' .., RdL.nil' ..⟩

theorem RQ.made {M : Mem} {b N n k : Nat} {z : List Value} (hM : M b = some (.row 64 N (madeCells z.toArray (n * 8)).toList)) (hz : z = zeroQ.cells) (hk : n ≤ k) : RQ M (some ⟨b, 0, none⟩) n k (List.replicate n zeroQ) :=
  RdL.made (z := zeroQ.cells) (by simp) (by subst hz; exact hM) ⟨rfl, zeroQ_wf⟩ hk
theorem RC.made {M : Mem} {b N n k : Nat} {z : List Value} (hM : M b = some (.row 40 N (madeCells z.toArray (n * 3)).toList)) (hz : z = CP.cells ⟨0, none, 0, 0, none, 0, 0⟩) (hk : n ≤ k) : RC M (some ⟨b, 0, none⟩) n k (List.replicate n zeroC) :=
  RdL.made (z := CP.cells ⟨0, none, 0, 0, none, 0, 0⟩) (by simp) (by subst hz; exact hM) ⟨_, rfl, zeroC_ck M⟩ hk

def Mem.del (M : Mem) (b : Nat) : Mem := fun i => if i = b then none else M i
theorem del_le (M : Mem) (b : Nat) : (M.del b).le M := fun i f h => by
  unfold Mem.del at h
  split at h
  · cases h
  · exact ⟨f, h, f.le_refl⟩
theorem del_at (M : Mem) (b : Nat) : (M.del b) b = none := by simp [Mem.del]
theorem le_del {Mc M : Mem} {b : Nat} (h : Mc.le M) (hb : Mc b = none) : Mc.le (M.del b) := fun i f hi => by
  obtain ⟨g, h1, h2⟩ := h i f hi
  have : i ≠ b := fun e => by subst e; rw [hb] at hi; cases hi
  exact ⟨g, by simp [Mem.del, this, h1], h2⟩
theorem del_ne {M : Mem} {b i : Nat} {f : Frag} (h : M i = some f) (hne : i ≠ b) : (M.del b) i = some f := by simp [Mem.del, hne, h]
theorem keep_off {M M1 : Mem} {b : Nat} {f : Frag} (h : ∀ i, M i ≠ none → M1 i = M i) (hb : M b = none) : ∀ i, M i ≠ none → (M1.set b f) i = M i := fun i hi => by
  have : i ≠ b := fun e => by subst e; exact hi hb
  simp [Mem.set, this, h i hi]
theorem none_of_keep {M M1 : Mem} {b : Nat} (h : ∀ i, M i ≠ none → M1 i = M i) (hb : M1 b = none) : M b = none := by
  cases hc : M b with
  | none => rfl
  | some f => have := h b (by rw [hc]; simp); rw [hb, hc] at this; cases this

end Go.SX
