/- Layer 36: the reference's check of a meeting. -/
import Derived.Test.YtojdihbanakhgaaMeetA
import Derived.Test.YtojdihbanakhgaaAhD
namespace Go.SX
open Go.Proofs.Try Go.Proofs


set_option maxHeartbeats 1000000 in
set_option maxRecDepth 100000 in
theorem refMeet_spec {acts : List ActV} {log : List QV} {M : Mem} {aa qa : Option Addr} {an ak qn qk : Nat} (h : RActs M aa an ak acts) (hq : RQ M qa qn qk log) : Spec 57 #[MV aa an ak qa qn qk] M fun _ _ v => v = EV (meetC acts log) := by
  have hn := h.len
  have hqn := hq.len
  refine ok57.spec 300 [MA aa an ak qa qn qk] rfl (by kernel_rfl) fun c K hK => ?_
  conv => cbv
  refine ⟨fun h1 => ?_, fun h1 => ?_⟩
  · replace h1 := of_decide_eq_true h1
    try simp only [nc] at h1
    try simp only [minF_t] at h1
    try simp only [minF_f] at h1
    try dsimp only at h1
    refine hK.ground rfl (Keeps.refl _ _) ?_
    rw [meetC_many (.inl (by omega))]
    rfl
  · replace h1 := of_decide_eq_false h1
    try simp only [nc] at h1
    try simp only [minF_t] at h1
    try simp only [minF_f] at h1
    try dsimp only at h1
    refine ⟨fun h2 => ?_, fun h2 => ?_⟩
    · replace h2 := of_decide_eq_true h2
      try simp only [nc] at h2
      try simp only [minF_t] at h2
      try simp only [minF_f] at h2
      try dsimp only at h2
      refine hK.ground rfl (Keeps.refl _ _) ?_
      rw [meetC_many (.inr (by omega))]
      rfl
    · replace h2 := of_decide_eq_false h2
      try simp only [nc] at h2
      try simp only [minF_t] at h2
      try simp only [minF_f] at h2
      try dsimp only at h2
      refine ⟨fun h3 => ?_, fun h3 => ?_⟩
      · replace h3 := of_decide_eq_true h3
        try simp only [nc] at h3
        try simp only [minF_t] at h3
        try simp only [minF_f] at h3
        try dsimp only at h3
        refine hK.ground rfl (Keeps.refl _ _) ?_
        have : acts = [] := List.eq_nil_of_length_eq_zero (by omega)
        subst this
        rw [meetC_nil (by omega)]
        rfl
      · replace h3 := of_decide_eq_false h3
        try simp only [nc] at h3
        try simp only [minF_t] at h3
        try simp only [minF_f] at h3
        try dsimp only at h3
        rw [meetC_ne (by omega) (by omega)] at hK
        refine OKS.loopH (fun i => i ≤ an ∧ firstA (acts.drop i) = firstA acts) (fun i => [(3, EA i)]) (fun _ => []) (fun _ => M) (fun i => an - i) 0 ⟨by omega, by simp⟩ ?_ ?_
        · refine ⟨by cbv <;> simp, by cbv <;> simp, by cbv, Mem.le_refl _⟩
        · intro i ⟨hi1, hi2⟩ ih
          refine ok57.go 100 (by kernel_rfl) ?_
          conv => cbv
          refine ⟨fun l1 => ?_, fun l1 => ?_⟩
          · replace l1 := of_decide_eq_true l1
            try simp only [nc] at l1
            try simp only [minF_t] at l1
            try simp only [minF_f] at l1
            try dsimp only at l1
            obtain ⟨b, o, p, ea, hp, hak⟩ := h.actor (i := i) (by omega)
            rw [firstA_cons (by omega)] at hi2
            refine .mk b o i ea rfl (by show i < an; omega) ?_
            conv => cbv
            refine .mk p.own.avs rfl rfl (AP.at_own hp) ?_
            conv => cbv
            refine CallS.pure (refCheck_spec hak.own) rfl (EA (checkC acts[i].own)) rfl rfl ?_
            conv => cbv
            refine ⟨fun m1 => ?_, fun m1 => ?_⟩
            · replace m1 := of_decide_eq_true m1
              try simp only [nc] at m1
              try simp only [minF_t] at m1
              try simp only [minF_f] at m1
              try dsimp only at m1
              refine hK.ground rfl (Keeps.refl _ _) ?_
              rw [← hi2, if_pos m1, if_pos m1]
              rfl
            · replace m1 := of_decide_eq_false m1
              try simp only [nc] at m1
              try simp only [minF_t] at m1
              try simp only [minF_f] at m1
              try dsimp only at m1
              refine .mk b o i ea rfl (by show i < an; omega) ?_
              conv => cbv
              refine .mk p.told.avs rfl rfl (AP.at_told hp) ?_
              conv => cbv
              refine CallS.pure (refCheck_spec hak.told) rfl (EA (checkC acts[i].told)) rfl rfl ?_
              conv => cbv
              refine ⟨fun m2 => ?_, fun m2 => ?_⟩
              · replace m2 := of_decide_eq_true m2
                try simp only [nc] at m2
                try simp only [minF_t] at m2
                try simp only [minF_f] at m2
                try dsimp only at m2
                refine hK.ground rfl (Keeps.refl _ _) ?_
                rw [← hi2, if_neg m1, if_pos m2, if_pos m2]
                rfl
              · replace m2 := of_decide_eq_false m2
                try simp only [nc] at m2
                try simp only [minF_t] at m2
                try simp only [minF_f] at m2
                try dsimp only at m2
                refine .i64 ((i + 1 : Nat) : Int) (by show (i : Int) + 1 = _; omega) (by omega) (by omega) ?_
                conv => cbv
                refine ih (i + 1) ⟨by omega, by rw [← hi2, if_neg m1, if_neg m2]⟩ (by omega) _ ?_
                refine ⟨by cbv <;> simp, by cbv <;> simp, by cbv, Mem.le_refl _⟩
          · replace l1 := of_decide_eq_false l1
            try simp only [nc] at l1
            try simp only [minF_t] at l1
            try simp only [minF_f] at l1
            try dsimp only at l1
            have e0 : firstA acts = 0 := by
              have e1 : acts.drop i = [] := List.drop_eq_nil_of_le (by omega)
              rw [← hi2, e1]
              rfl
            rw [e0, if_neg (by omega)] at hK
            obtain ⟨b0, o0, p0, ea0, hp0, hak0⟩ := h.actor (i := 0) (by omega)
            have q0 := hak0.own.len
            refine OKS.loopH (fun (p : Nat × Mem) => p.1 ≤ an ∧ (∀ j (hj : j < acts.length), j < p.1 → actOk acts[0].own.len log j acts[j] = true) ∧ ∀ b, M b ≠ none → p.2 b = M b) (fun p => [(6, EA p.1)]) (fun _ => [(7, .none)]) (fun p => p.2) (fun p => an - p.1) (0, M) ⟨by simp, fun j _ h => absurd h (by simp), fun _ _ => rfl⟩ ?_ ?_
            · refine ⟨by cbv <;> simp, by cbv <;> simp, by cbv, Mem.le_refl _⟩
            · intro ⟨i, Mi⟩ ⟨hi1, hi2, hkp⟩ ih
              simp only at hi1 hi2 hkp
              refine ok57.go 100 (by kernel_rfl) ?_
              conv => cbv
              refine ⟨fun l1 => ?_, fun l1 => ?_⟩
              · replace l1 := of_decide_eq_true l1
                try simp only [nc] at l1
                try simp only [minF_t] at l1
                try simp only [minF_f] at l1
                try dsimp only at l1
                obtain ⟨b, o, p, ea, hp, hak⟩ := h.actor (i := i) (by omega)
                have hp0' := CellsAt.le (le_of_keep hkp) hp0
                refine .mk b o i ea rfl (by show i < an; omega) ?_
                conv => cbv
                refine .mk p.avs rfl rfl (CellsAt.le (le_of_keep hkp) hp) ?_
                conv => cbv
                refine .mk b0 o0 0 ea0 rfl (by show 0 < an; omega) ?_
                conv => cbv
                refine .mk (EA p0.own.len) rfl hp0'.1 ?_
                conv => cbv
                have q1 := hak.own.len
                have q2 := hak.told.len
                have q3 := hak.after
                have q4 := hak.asked
                have bad : ¬ (acts[i].own.len = acts[0].own.len ∧ acts[i].told.len = acts[0].own.len ∧ -1 ≤ acts[i].after ∧ acts[i].after ≤ 2000 ∧ acts[i].asked = (cntL log (i : Nat) : Nat)) → ¬ actsOk acts[0].own.len log 0 acts = true := fun hb ht => by
                  have := actsOk_iff.1 ht i (by omega)
                  simp only [actOk, Bool.and_eq_true, decide_eq_true_eq, Nat.zero_add] at this
                  omega
                refine ⟨fun l2 => ?_, fun l2 => ?_⟩
                · replace l2 := of_decide_eq_true l2
                  try simp only [nc] at l2
                  try simp only [minF_t] at l2
                  try simp only [minF_f] at l2
                  try dsimp only at l2
                  refine hK.ground rfl (Keeps.of_keep hkp) ?_
                  rw [if_neg (bad (by omega))]
                  rfl
                · replace l2 := of_decide_eq_false l2
                  try simp only [nc] at l2
                  try simp only [minF_t] at l2
                  try simp only [minF_f] at l2
                  try dsimp only at l2
                  refine .mk b0 o0 0 ea0 rfl (by show 0 < an; omega) ?_
                  conv => cbv
                  refine .mk (EA p0.own.len) rfl hp0'.1 ?_
                  conv => cbv
                  refine ⟨fun l3 => ?_, fun l3 => ?_⟩
                  · replace l3 := of_decide_eq_true l3
                    try simp only [nc] at l3
                    try simp only [minF_t] at l3
                    try simp only [minF_f] at l3
                    try dsimp only at l3
                    refine hK.ground rfl (Keeps.of_keep hkp) ?_
                    rw [if_neg (bad (by omega))]
                    rfl
                  · replace l3 := of_decide_eq_false l3
                    try simp only [nc] at l3
                    try simp only [minF_t] at l3
                    try simp only [minF_f] at l3
                    try dsimp only at l3
                    refine ⟨fun l4 => ?_, fun l4 => ?_⟩
                    · replace l4 := of_decide_eq_true l4
                      try simp only [nc] at l4
                      try simp only [minF_t] at l4
                      try simp only [minF_f] at l4
                      try dsimp only at l4
                      refine hK.ground rfl (Keeps.of_keep hkp) ?_
                      rw [if_neg (bad (by omega))]
                      rfl
                    · replace l4 := of_decide_eq_false l4
                      try simp only [nc] at l4
                      try simp only [minF_t] at l4
                      try simp only [minF_f] at l4
                      try dsimp only at l4
                      refine ⟨fun l5 => ?_, fun l5 => ?_⟩
                      · replace l5 := of_decide_eq_true l5
                        try simp only [nc] at l5
                        try simp only [minF_t] at l5
                        try simp only [minF_f] at l5
                        try dsimp only at l5
                        refine hK.ground rfl (Keeps.of_keep hkp) ?_
                        rw [if_neg (bad (by omega))]
                        rfl
                      · replace l5 := of_decide_eq_false l5
                        try simp only [nc] at l5
                        try simp only [minF_t] at l5
                        try simp only [minF_f] at l5
                        try dsimp only at l5
                        refine CallS.spec (refOf_spec (hq.up ElQ.up (le_of_keep hkp)) (by omega) (i : Nat)) rfl fun B1 M1 v1 hB1 hlt1 hk1 hn1 ⟨a1, k1, ev1, h1⟩ => ⟨SA a1 (ofL log (i : Nat)).length k1, rfl, ev1.symm, ?_⟩
                        conv => cbv
                        have kp1 := keep_trans hkp hk1.keep
                        refine ⟨fun l6 => ?_, fun l6 => ?_⟩
                        · replace l6 := of_decide_eq_true l6
                          try simp only [nc] at l6
                          try simp only [minF_t] at l6
                          try simp only [minF_f] at l6
                          try dsimp only at l6
                          refine hK.ground rfl (Keeps.of_keep kp1) ?_
                          rw [ofL_len] at l6
                          rw [if_neg (bad (by omega))]
                          rfl
                        · replace l6 := of_decide_eq_false l6
                          try simp only [nc] at l6
                          try simp only [minF_t] at l6
                          try simp only [minF_f] at l6
                          try dsimp only at l6
                          rw [ofL_len] at l6
                          refine .i64 ((i + 1 : Nat) : Int) (by show (i : Int) + 1 = _; omega) (by omega) (by omega) ?_
                          conv => cbv
                          refine ih (i + 1, M1) ⟨by simp only; omega, fun j hj hji => ?_, kp1⟩ (by simp only; omega) _ ?_
                          · rcases Nat.lt_or_ge j i with hlt | hge
                            · exact hi2 j hj hlt
                            · simp only at hji
                              have : j = i := by omega
                              subst this
                              simp only [actOk, Bool.and_eq_true, decide_eq_true_eq]
                              omega
                          · refine ⟨by cbv <;> simp, by cbv <;> simp, by cbv, Mem.le_refl _⟩
              · replace l1 := of_decide_eq_false l1
                try simp only [nc] at l1
                try simp only [minF_t] at l1
                try simp only [minF_f] at l1
                try dsimp only at l1
                refine hK.ground rfl (Keeps.of_keep hkp) ?_
                have : actsOk acts[0].own.len log 0 acts = true := actsOk_iff.2 fun j hj => by rw [Nat.zero_add]; exact hi2 j hj (by omega)
                rw [if_pos this]
                rfl

end Go.SX
