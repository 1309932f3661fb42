/- A function's contract gives its calls. -/
import Derived.Test.YtojdihbanakhgaaCoreB
import Derived.WalkKit
namespace Go.SX
open Go.RowKit Go.WideShapes

theorem BelowX.grown {w w' : World} (h : BelowX noL w w') : Grown w w' := by
  refine ⟨⟨h.os, h.output, fun i hi => ?_⟩, h.froz, h.size⟩
  rw [h.block i hi rfl]
  cases w.heap[i]? with
  | none => rfl
  | some o => cases o <;> simp

theorem Spec.calls {f : Nat} {q : Unit → Q} {rs : List ResultVar} {n : Nat} (hf : FnOk f q rs n) {args : Array Value} {M : Mem} {Post : Nat → Mem → Value → Prop} (h : Spec f args M Post) {w : World} (hm : M.on w) :
    Calls Go.Proofs.Try.prog f args w fun e w' => ∃ v M', e = .returned v ∧ M'.on w' ∧ Grown w w' ∧ Post w.heap.size M' v := by
  obtain ⟨fn, _, h2, _⟩ := hf.fn
  have h1 := h w hm
  rw [h2] at h1
  rw [← PR_eq]
  refine Calls.mono h1 ?_
  rintro e w' ⟨v, rfl, M', h3, h4, h5, h6, h7⟩
  exact ⟨v, M', rfl, h3, h4.grown, h7⟩

theorem Spec.callsX {f : Nat} {q : Unit → Q} {rs : List ResultVar} {n : Nat} (hf : FnOk f q rs n) {args : Array Value} {M : Mem} {Post : Nat → Mem → Value → Prop} (h : Spec f args M Post) {w : World} (hm : M.on w) :
    Calls Go.Proofs.Try.prog f args w fun e w' => ∃ v M', e = .returned v ∧ M'.on w' ∧ BelowX noL w w' ∧ Post w.heap.size M' v := by
  obtain ⟨fn, _, h2, _⟩ := hf.fn
  have h1 := h w hm
  rw [h2] at h1
  rw [← PR_eq]
  refine Calls.mono h1 ?_
  rintro e w' ⟨v, rfl, M', h3, h4, h5, h6, h7⟩
  exact ⟨v, M', rfl, h3, h4, h7⟩

end Go.SX
