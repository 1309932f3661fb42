/- The law AgentTrue (parcener/parcenerlaw36.AgentTrue) answers true for every list of actors and every list of queries, and leaves them as they are; no condition. -/
import Derived.Test.YtojdihbanakhgaaRows
import Derived.Test.YtojdihbanakhgaaAjJ
import Derived.Test.YtojdihbanakhgaaAgZf
import Derived.Test.YtojdihbanakhgaaAgK
import Derived.WalkKit
import Derived.ProofKit
import Derived.OpenShut
import Derived.WideKeyArgs
namespace Go.Proofs.Ytojdihbanakhgaa.agentTrue
open Go.ChangeShapes Go.WideShapes Go.ChangeAt Go.RowKit

theorem own : ownKnob Try.prog.godebug = none := by kernel_rfl

theorem stays {H : Type} {enc : TypeId × Value → H} {t : TypeId} {W W' : World} (hb : Go.SX.BelowX Go.SX.noL W W') (hr : Try.prog.readableRec t = true) (hrow : t < Try.prog.types.size) {sp : Nat → Bool} {v : Value} {d : DataW H} {ps : List MemPlace}
    (h : DataW.Trod enc Try.prog W 0 (fun _ => true) true t v d ps) (hlt : ∀ x ∈ ps, x.block < W.heap.size) (hs : ∀ x ∈ ps, sp x.block = true) : DataW.Trod enc Try.prog W' 0 sp true t v d ps :=
  WideElems.Trod_stays (by kernel_rfl) hr hrow h (fun x hx => by
    have := hb.block x.block (hlt x hx) rfl
    cases x with
    | cell b o => exact World.cell?_of_block (w := W) this
    | map b => exact this) hs

set_option maxRecDepth 100000 in
theorem lifted (os : Os) (started : os.Started) (H : Type) (enc : TypeId × Value → H) :
    ReturnsInHanded {} Try.checked os 12 .any (Rows.agentTrueSpec.pre6 enc Try.prog Try.f12 Rows.agentTrueRow.domain false) (Rows.agentTrueSpec.post enc Try.prog Try.f12 false true false false) := by
  refine returnsInHanded_of_change (C := Try.checked) own started (by kernel_rfl) Try.func12
    (ChangeSpec.witness6 (enc := enc) (C := Try.checked) false ⟨#[], #[.slice none 0 0, .slice none 0 0], []⟩ 8 (by kernel_rfl) (by kernel_rfl) (by kernel_rfl) (by kernel_rfl)) ?_
  intro W base args ds gs before hval0 hW hcnd _
  have hval : ∀ (j : Nat) t v, Try.f12.params[j]? = some t → args[j]? = some v → Value.okWide Try.prog W .any base t v := hval0
  have hW' := hW
  obtain ⟨p, q, hA0, hV, rfl, hfz, hnd⟩ := hW
  have hA : DataW.TrodAll enc Try.prog W 0 (fun _ => true) true Try.f12.params.toList args.toList ds p := hA0
  rw [Try.params12] at hA hval
  obtain ⟨v1, vs1, d1, ds1, p1, q1, ea1, rfl, rfl, t1, hA1⟩ := trodAll_cons hA
  obtain ⟨v2, vs2, d2, ds2, p2, q2, rfl, rfl, rfl, t2, hA2⟩ := trodAll_cons hA1
  obtain ⟨rfl, rfl, rfl⟩ := trodAll_nil hA2
  have hargs : args = #[v1, v2] := by apply Array.ext'; simpa using ea1
  subst hargs
  obtain ⟨rfl, rfl⟩ := trodVars_none hV
  obtain ⟨a1, n1, c1, rfl⟩ := okWide_slice Try.underlying22 (hval 0 22 v1 rfl rfl)
  obtain ⟨b1, m1, k1, l1, e1, hm1, r1⟩ := Go.SX.reads_actors t1
  cases e1
  obtain ⟨a2, n2, c2, rfl⟩ := okWide_slice Try.underlying23 (hval 1 23 v2 rfl rfl)
  obtain ⟨b2, m2, k2, l2, e2, hm2, r2⟩ := Go.SX.reads_queries t2
  cases e2
  have hlt : ∀ x ∈ p1 ++ (p2 ++ []), x.block < W.heap.size := fun x hx => by simpa using hW'.lt x (by simpa using hx)
  refine (Go.SX.Spec.callsX Go.SX.ok12 (Go.SX.agentTrue_spec r1 r2) (Go.SX.snap_on W)).mono fun e W' he => ?_
  obtain ⟨v, M', rfl, _, hg, hv⟩ := he
  subst hv
  exact ⟨_, rfl, post_of_same (pa := p1 ++ (p2 ++ [])) (pv := []) hW' (fun _ _ _ => (trodAll_cons_mk (shut_bool Try.underlying4 _) trodAll_mk0))
    (fun sp hsp => (trodAll_cons_mk (stays hg (by kernel_rfl) (of_decide_eq_true (by kernel_rfl)) t1 (fun x hx => hlt x (by simp [hx])) (fun x hx => hsp x (by simp [hx]))) (trodAll_cons_mk (stays hg (by kernel_rfl) (of_decide_eq_true (by kernel_rfl)) t2 (fun x hx => hlt x (by simp [hx])) (fun x hx => hsp x (by simp [hx]))) trodAll_mk0)))
    (fun _ _ => rfl) rfl (hg.grown.frame _) hg.grown.2.1 (ok_one (by kernel_rfl) rfl (okWide_bool_mk Try.underlying4 _))⟩

theorem over : Rows.agentTrueRow.holds Try.pinned (OpenSpec.ofChange Rows.agentTrueSpec) :=
  OpenClaim.holds_of_wide 12 Try.f12 rfl rfl rfl rfl rfl rfl rfl ⟨rfl, rfl, rfl, rfl, rfl⟩ rfl rfl rfl rfl rfl (by kernel_rfl) Try.func12 (by kernel_rfl)
    (of_decide_eq_true (by kernel_rfl)) (by unfold Func.isWrapper; first | (rw [if_pos (by decide +kernel)]; kernel_rfl) | (rw [if_neg (by decide +kernel)]; exact ⟨rfl, rfl⟩))
    (fun os started H enc _ => lifted os started H enc)

theorem proved : Rows.AgentTrueSaid :=
  over
end Go.Proofs.Ytojdihbanakhgaa.agentTrue
