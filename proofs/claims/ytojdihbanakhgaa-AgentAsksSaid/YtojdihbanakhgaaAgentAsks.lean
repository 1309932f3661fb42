/- The law AgentAsks (parcener/parcenerlaw36.AgentAsks) answers true for every meeting, every number, every kind and every two ratios, and leaves them as they are; no condition. -/
import Derived.Test.YtojdihbanakhgaaRows
import Derived.Test.YtojdihbanakhgaaAjH
import Derived.Test.YtojdihbanakhgaaAgZf
import Derived.Test.YtojdihbanakhgaaAgK
import Derived.WalkKit
import Derived.ProofKit
import Derived.OpenShut
import Derived.WideKeyArgs
namespace Go.Proofs.Ytojdihbanakhgaa.agentAsks
open Go.ChangeShapes Go.WideShapes Go.ChangeAt Go.RowKit

theorem own : ownKnob Try.prog.godebug = none := by kernel_rfl

theorem stays {H : Type} {enc : TypeId × Value → H} {t : TypeId} {W W' : World} (hb : Go.SX.BelowX Go.SX.noL W W') (hr : Try.prog.readableRec t = true) (hrow : t < Try.prog.types.size) {sp : Nat → Bool} {v : Value} {d : DataW H} {ps : List MemPlace}
    (h : DataW.Trod enc Try.prog W 0 (fun _ => true) true t v d ps) (hlt : ∀ x ∈ ps, x.block < W.heap.size) (hs : ∀ x ∈ ps, sp x.block = true) : DataW.Trod enc Try.prog W' 0 sp true t v d ps :=
  WideElems.Trod_stays (by kernel_rfl) hr hrow h (fun x hx => by
    have := hb.block x.block (hlt x hx) rfl
    cases x with
    | cell b o => exact World.cell?_of_block (w := W) this
    | map b => exact this) hs

set_option maxRecDepth 100000 in
theorem lifted (os : Os) (started : os.Started) (H : Type) (enc : TypeId × Value → H) :
    ReturnsInHanded {} Try.checked os 8 .any (Rows.agentAsksSpec.pre6 enc Try.prog Try.f8 Rows.agentAsksRow.domain false) (Rows.agentAsksSpec.post enc Try.prog Try.f8 false true false false) := by
  refine returnsInHanded_of_change (C := Try.checked) own started (by kernel_rfl) Try.func8
    (ChangeSpec.witness6 (enc := enc) (C := Try.checked) false ⟨#[], #[.agg #[.slice none 0 0, .slice none 0 0], .int .i64 0, .int .u8 0, .agg #[.int .i64 0, .int .i64 0], .agg #[.int .i64 0, .int .i64 0]], []⟩ 8 (by kernel_rfl) (by kernel_rfl) (by kernel_rfl) (by kernel_rfl)) ?_
  intro W base args ds gs before hval0 hW hcnd _
  have hval : ∀ (j : Nat) t v, Try.f8.params[j]? = some t → args[j]? = some v → Value.okWide Try.prog W .any base t v := hval0
  have hW' := hW
  obtain ⟨p, q, hA0, hV, rfl, hfz, hnd⟩ := hW
  have hA : DataW.TrodAll enc Try.prog W 0 (fun _ => true) true Try.f8.params.toList args.toList ds p := hA0
  rw [Try.params8] at hA hval
  obtain ⟨v1, vs1, d1, ds1, p1, q1, ea1, rfl, rfl, t1, hA1⟩ := trodAll_cons hA
  obtain ⟨v2, vs2, d2, ds2, p2, q2, rfl, rfl, rfl, t2, hA2⟩ := trodAll_cons hA1
  obtain ⟨v3, vs3, d3, ds3, p3, q3, rfl, rfl, rfl, t3, hA3⟩ := trodAll_cons hA2
  obtain ⟨v4, vs4, d4, ds4, p4, q4, rfl, rfl, rfl, t4, hA4⟩ := trodAll_cons hA3
  obtain ⟨v5, vs5, d5, ds5, p5, q5, rfl, rfl, rfl, t5, hA5⟩ := trodAll_cons hA4
  obtain ⟨rfl, rfl, rfl⟩ := trodAll_nil hA5
  have hargs : args = #[v1, v2, v3, v4, v5] := by apply Array.ext'; simpa using ea1
  subst hargs
  obtain ⟨rfl, rfl⟩ := trodVars_none hV
  obtain ⟨cs1, rfl, _⟩ := okWide_struct Try.underlying25 (hval 0 25 v1 rfl rfl)
  obtain ⟨a1, n1, k1, b1, m1, j1, l1, g1, e1, hm1, hn1, r1, s1⟩ := Go.SX.reads_meeting t1
  have e1 := Go.SX.agg_of e1
  cases e1
  obtain ⟨x2, rfl⟩ := okWide_int Try.underlying3 (hval 1 3 v2 rfl rfl)
  obtain ⟨y2, e2, w2⟩ := Go.SX.reads_num t2
  cases e2
  obtain ⟨x3, rfl⟩ := okWide_int Try.underlying5 (hval 2 5 v3 rfl rfl)
  obtain ⟨y3, e3, w3⟩ := Go.SX.reads_u8 t3
  cases e3
  obtain ⟨cs4, rfl, _⟩ := okWide_struct Try.underlying43 (hval 3 43 v4 rfl rfl)
  obtain ⟨x4, e4, w4⟩ := Go.SX.reads_rat t4
  have e4 := Go.SX.agg_of e4
  cases e4
  obtain ⟨cs5, rfl, _⟩ := okWide_struct Try.underlying43 (hval 4 43 v5 rfl rfl)
  obtain ⟨x5, e5, w5⟩ := Go.SX.reads_rat t5
  have e5 := Go.SX.agg_of e5
  cases e5
  have hlt : ∀ x ∈ p1 ++ (p2 ++ (p3 ++ (p4 ++ (p5 ++ [])))), x.block < W.heap.size := fun x hx => by simpa using hW'.lt x (by simpa using hx)
  refine (Go.SX.Spec.callsX Go.SX.ok8 (Go.SX.agentAsks_spec r1 s1 x2 x3 w2 w3 x4 x5 w4 w5) (Go.SX.snap_on W)).mono fun e W' he => ?_
  obtain ⟨v, M', rfl, _, hg, hv⟩ := he
  subst hv
  exact ⟨_, rfl, post_of_same (pa := p1 ++ (p2 ++ (p3 ++ (p4 ++ (p5 ++ []))))) (pv := []) hW' (fun _ _ _ => (trodAll_cons_mk (shut_bool Try.underlying4 _) trodAll_mk0))
    (fun sp hsp => (trodAll_cons_mk (stays hg (by kernel_rfl) (of_decide_eq_true (by kernel_rfl)) t1 (fun x hx => hlt x (by simp [hx])) (fun x hx => hsp x (by simp [hx]))) (trodAll_cons_mk (stays hg (by kernel_rfl) (of_decide_eq_true (by kernel_rfl)) t2 (fun x hx => hlt x (by simp [hx])) (fun x hx => hsp x (by simp [hx]))) (trodAll_cons_mk (stays hg (by kernel_rfl) (of_decide_eq_true (by kernel_rfl)) t3 (fun x hx => hlt x (by simp [hx])) (fun x hx => hsp x (by simp [hx]))) (trodAll_cons_mk (stays hg (by kernel_rfl) (of_decide_eq_true (by kernel_rfl)) t4 (fun x hx => hlt x (by simp [hx])) (fun x hx => hsp x (by simp [hx]))) (trodAll_cons_mk (stays hg (by kernel_rfl) (of_decide_eq_true (by kernel_rfl)) t5 (fun x hx => hlt x (by simp [hx])) (fun x hx => hsp x (by simp [hx]))) trodAll_mk0))))))
    (fun _ _ => rfl) rfl (hg.grown.frame _) hg.grown.2.1 (ok_one (by kernel_rfl) rfl (okWide_bool_mk Try.underlying4 _))⟩

theorem over : Rows.agentAsksRow.holds Try.pinned (OpenSpec.ofChange Rows.agentAsksSpec) :=
  OpenClaim.holds_of_wide 8 Try.f8 rfl rfl rfl rfl rfl rfl rfl ⟨rfl, rfl, rfl, rfl, rfl⟩ rfl rfl rfl rfl rfl (by kernel_rfl) Try.func8 (by kernel_rfl)
    (of_decide_eq_true (by kernel_rfl)) (by unfold Func.isWrapper; first | (rw [if_pos (by decide +kernel)]; kernel_rfl) | (rw [if_neg (by decide +kernel)]; exact ⟨rfl, rfl⟩))
    (fun os started H enc _ => lifted os started H enc)

theorem proved : Rows.AgentAsksSaid :=
  over
end Go.Proofs.Ytojdihbanakhgaa.agentAsks
