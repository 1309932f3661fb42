/- Package ratio: what its small functions reckon. -/
import Derived.Test.YtojdihbanakhgaaCoreB
import Derived.Test.YtojdihbanakhgaaPlainA
import Derived.Lib.Mul64
import Derived.Laws.Externs
import Derived.Laws.MathBits
import Derived.Shelf.Spec.BitsCarry
import Derived.Test.YtojdihbanakhgaaSxFn3
import Derived.Test.YtojdihbanakhgaaSxFn4
import Derived.Test.YtojdihbanakhgaaSxFn5
namespace Go.SX
open Go.Proofs.Try Go.Proofs

theorem size_spec (n : Int) (h : I64 n) (M : Mem) : Pure1 104 #[.int .i64 n] M (.int .u64 n.natAbs) := by
  refine ok104.pure 100 [.sym .i64 fun _ => n] rfl (by kernel_rfl) fun c K hK => ?_
  conv => cbv
  obtain ⟨h1, h2⟩ := h
  refine ⟨fun e => ?_, fun e => ?_⟩
  · replace e := of_decide_eq_true e
    refine .u64m n rfl ?_
    conv => cbv
    refine .mk _ rfl ?_
    conv => cbv
    refine hK.pure rfl (Mem.le_refl _) ?_
    have hn : (n.natAbs : Int) = -n := Int.ofNat_natAbs_of_nonpos (by omega)
    simp only [AV.val, AV.den, wrap_u64_mod]
    exact congrArg _ (by omega)
  · replace e := of_decide_eq_false e
    refine .u64 n rfl (by omega) (by omega) ?_
    conv => cbv
    refine hK.pure rfl (Mem.le_refl _) ?_
    have hn : (n.natAbs : Int) = n := Int.natAbs_of_nonneg (by omega)
    simp only [AV.val, AV.den]
    exact congrArg _ (by omega)

theorem gcd_spec (a b : Nat) (M : Mem): Pure1 105 #[.int .u64 a, .int .u64 b] M (.int .u64 (Nat.gcd a b)) := by
  refine ok105.pure 100 [.sym .u64 fun _ => (a:Int), .sym .u64 fun _ => (b:Int)] rfl (by kernel_rfl) fun c K hK => ?_
  conv => cbv
  refine OKS.loopH (fun (p : Nat × Nat) => Nat.gcd p.1 p.2 = Nat.gcd a b) (fun p => [(0, .sym .u64 fun _ => (p.1 : Int)), (1, .sym .u64 fun _ => (p.2 : Int))]) (fun _ => []) (fun _ => M) (fun p => p.2) (a, b) rfl ?_ ?_
  · refine ⟨by cbv; simp, by cbv, by cbv, Mem.le_refl _⟩
  · intro p hp ih
    refine ok105.go 100 (by kernel_rfl) ?_
    conv => cbv
    refine ⟨fun h => ?_, fun h => ?_⟩
    · simp at h
      refine .rem ((p.1 % p.2 : Nat) : Int) rfl (by simp; omega) (by simp [Int.tmod_eq_emod_of_nonneg]) ?_
      conv => cbv
      refine ih (p.2, p.1 % p.2) ?_ (Nat.mod_lt _ h) _ ?_
      · simp only; rw [Nat.gcd_comm, ← Nat.gcd_rec, Nat.gcd_comm]; exact hp
      · refine ⟨by cbv; simp, by cbv, by cbv, Mem.le_refl _⟩
    · simp at h
      refine hK.pure rfl (Mem.le_refl _) ?_
      simp [AV.val, AV.den, ← hp, h]

theorem mul64_spec (x y : Nat) (hx : x < 18446744073709551616) (hy : y < 18446744073709551616) (M : Mem) : Pure1 106 #[.int .u64 x, .int .u64 y] M (.tuple #[.int .u64 ((x * y / 18446744073709551616 : Nat) : Int), .int .u64 ((x * y % 18446744073709551616 : Nat) : Int)]) := by
  refine ok106.pure 100 [.sym .u64 fun _ => (x : Int), .sym .u64 fun _ => (y : Int)] rfl (by kernel_rfl) fun c K hK => ?_
  obtain ⟨k1, k2, k3, k4⟩ := Lib.mul64_hi x y hx hy
  have k5 : x / 4294967296 * (y % 4294967296) < 18446744073709551616 := by omega
  have k6 : x % 4294967296 * (y / 4294967296) < 18446744073709551616 := by omega
  have k8 : x * y / 18446744073709551616 < 18446744073709551616 := Nat.div_lt_of_lt_mul (Nat.mul_lt_mul'' hx hy)
  conv => cbv
  refine .low32 x rfl rfl hx ?_
  conv => cbv
  refine .shrN x 32 (x / 4294967296) rfl rfl (by decide) rfl ?_
  conv => cbv
  refine .low32 y rfl rfl hy ?_
  conv => cbv
  refine .shrN y 32 (y / 4294967296) rfl rfl (by decide) rfl ?_
  conv => cbv
  refine .nat (x % 4294967296 * (y % 4294967296)) (by simp) k1 ?_
  conv => cbv
  refine .nat (x / 4294967296 * (y % 4294967296)) (by simp) k5 ?_
  conv => cbv
  refine .shrN (x % 4294967296 * (y % 4294967296)) 32 _ rfl rfl (by decide) rfl ?_
  conv => cbv
  refine .nat (x / 4294967296 * (y % 4294967296) + x % 4294967296 * (y % 4294967296) / 4294967296) (by simp) k2 ?_
  conv => cbv
  refine .low32 _ rfl rfl k2 ?_
  conv => cbv
  refine .shrN _ 32 _ rfl rfl (by decide) rfl ?_
  conv => cbv
  refine .nat (x % 4294967296 * (y / 4294967296)) (by simp) k6 ?_
  conv => cbv
  refine .nat ((x / 4294967296 * (y % 4294967296) + x % 4294967296 * (y % 4294967296) / 4294967296) % 4294967296 + x % 4294967296 * (y / 4294967296)) (by simp) k3 ?_
  conv => cbv
  refine .nat (x / 4294967296 * (y / 4294967296)) (by simp) (by omega) ?_
  conv => cbv
  refine .nat (x / 4294967296 * (y / 4294967296) + (x / 4294967296 * (y % 4294967296) + x % 4294967296 * (y % 4294967296) / 4294967296) / 4294967296) (by simp) (by omega) ?_
  conv => cbv
  refine .shrN _ 32 _ rfl rfl (by decide) rfl ?_
  conv => cbv
  refine .nat (x * y / 18446744073709551616) (by rw [← k4]; simp) k8 ?_
  conv => cbv
  refine .u64m ((x * y : Nat) : Int) (by simp) ?_
  conv => cbv
  exact hK.pure rfl (Mem.le_refl _) rfl

theorem add64_spec (x y : Nat) (M : Mem) : Pure1 108 #[.int .u64 x, .int .u64 y, .int .u64 0] M (.tuple #[.int .u64 (((x + y) % 18446744073709551616 : Nat) : Int), .int .u64 (((x + y) / 18446744073709551616 : Nat) : Int)]) := by
  intro w hm
  have h : (callFunc 108 #[.int .u64 x, .int .u64 y, .int .u64 0]).run PR w = .ok (.value (.tuple #[.int .u64 (((x + y) % 18446744073709551616 : Nat) : Int), .int .u64 (((x + y) / 18446744073709551616 : Nat) : Int)])) w := by
    rw [PR_eq, run_callFunc_extern func108 (by kernel_rfl) (by kernel_rfl) (by kernel_rfl) (e := add64Entry) (by kernel_rfl), run_add64 x y 0 (by omega) (by omega) (by omega) (by omega)]
    simp
  rw [h]
  exact ⟨M, hm, ⟨rfl, rfl, rfl, fun _ => rfl, Nat.le_refl _, fun _ _ _ => rfl⟩, Keeps.refl _ _, fun _ hb => .inl hb, rfl, rfl⟩

theorem sub64_spec (x y : Nat) (M : Mem) : Pure1 109 #[.int .u64 x, .int .u64 y, .int .u64 0] M (.tuple #[.int .u64 (((x + 18446744073709551616 - y) % 18446744073709551616 : Nat) : Int), .int .u64 ((if x < y then 1 else 0 : Nat) : Int)]) := by
  intro w hm
  have h : (callFunc 109 #[.int .u64 x, .int .u64 y, .int .u64 0]).run PR w = .ok (.value (.tuple #[.int .u64 (((x + 18446744073709551616 - y) % 18446744073709551616 : Nat) : Int), .int .u64 ((if x < y then 1 else 0 : Nat) : Int)])) w := by
    rw [PR_eq, run_callFunc_extern func109 (by kernel_rfl) (by kernel_rfl) (by kernel_rfl) (e := sub64Entry) (by kernel_rfl)]
    have h0 := run_sub64 (P := Go.Proofs.Try.prog) x y 0 (by omega) w
    simp only [Nat.sub_zero, Nat.add_zero] at h0
    have h1 : (sub64Entry #[.int .u64 x, .int .u64 y, .int .u64 0]).run Go.Proofs.Try.prog w = .ok (.tuple #[.int .u64 (((x + 18446744073709551616 - y) % 18446744073709551616 : Nat) : Int), .int .u64 ((if x < y then 1 else 0 : Nat) : Int)]) w := h0
    rw [h1]
    rfl
  rw [h]
  exact ⟨M, hm, ⟨rfl, rfl, rfl, fun _ => rfl, Nat.le_refl _, fun _ _ _ => rfl⟩, Keeps.refl _ _, fun _ hb => .inl hb, rfl, rfl⟩

theorem ba_get (s : ByteArray) (i : Nat) (h : i < s.size) : s[i]? = some s[i] := getElem?_pos s i h

set_option maxRecDepth 1000000 in
theorem len64_spec (x : Nat) (hx : x < 18446744073709551616) (M : Mem) : Pure1 136 #[.int .u64 x] M (.int .i64 (bitLen x : Nat)) := by
  refine ok136.pure 100 [.sym .u64 fun _ => (x : Int)] rfl (by kernel_rfl) fun c K hK => ?_
  conv => cbv
  refine ⟨fun h0 => ?_, fun h0 => ?_⟩
  · replace h0 := of_decide_eq_true h0
    simp only [nc] at h0
    refine .shrN (x) 32 (x / 4294967296) rfl rfl (by decide) rfl ?_
    conv => cbv
    refine ⟨fun h1 => ?_, fun h1 => ?_⟩
    · replace h1 := of_decide_eq_true h1
      simp only [nc] at h1
      refine .shrN (x / 4294967296) 16 (x / 4294967296 / 65536) rfl rfl (by decide) rfl ?_
      conv => cbv
      refine ⟨fun h2 => ?_, fun h2 => ?_⟩
      · replace h2 := of_decide_eq_true h2
        simp only [nc] at h2
        refine .shrN (x / 4294967296 / 65536) 8 (x / 4294967296 / 65536 / 256) rfl rfl (by decide) rfl ?_
        conv => cbv
        have e : bitLen x = 56 + bitLen (x / 4294967296 / 65536 / 256) := by (have h32 : bitLen (x) = 32 + bitLen (x / 4294967296) := bitLen_shift (x) 32 (by simp; omega); have h16 : bitLen (x / 4294967296) = 16 + bitLen (x / 4294967296 / 65536) := bitLen_shift (x / 4294967296) 16 (by simp; omega); have h8 : bitLen (x / 4294967296 / 65536) = 8 + bitLen (x / 4294967296 / 65536 / 256) := bitLen_shift (x / 4294967296 / 65536) 8 (by simp; omega); omega)
        have hb : x / 4294967296 / 65536 / 256 < 256 := by omega
        have hl := bitLen_le8 (x / 4294967296 / 65536 / 256) hb
        refine .u8N (x / 4294967296 / 65536 / 256) rfl hb ?_
        conv => cbv
        refine .mk _ (x / 4294967296 / 65536 / 256) _ rfl rfl (ba_get _ _ (id hb)) ?_
        conv => cbv
        refine .i64 ((bitLen (x / 4294967296 / 65536 / 256) : Nat) : Int) (congrArg Nat.cast (len8tab_get _ (show _ < 256 from hb))) (by omega) (by omega) ?_
        conv => cbv
        refine .i64 ((56 + bitLen (x / 4294967296 / 65536 / 256) : Nat) : Int) (by simp) (by omega) (by omega) ?_
        conv => cbv
        exact hK.pure rfl (Mem.le_refl _) (congrArg (Value.int .i64) (congrArg Nat.cast (e.symm)))
      · replace h2 := of_decide_eq_false h2
        simp only [nc] at h2
        have e : bitLen x = 48 + bitLen (x / 4294967296 / 65536) := by (have h32 : bitLen (x) = 32 + bitLen (x / 4294967296) := bitLen_shift (x) 32 (by simp; omega); have h16 : bitLen (x / 4294967296) = 16 + bitLen (x / 4294967296 / 65536) := bitLen_shift (x / 4294967296) 16 (by simp; omega); omega)
        have hb : x / 4294967296 / 65536 < 256 := by omega
        have hl := bitLen_le8 (x / 4294967296 / 65536) hb
        refine .u8N (x / 4294967296 / 65536) rfl hb ?_
        conv => cbv
        refine .mk _ (x / 4294967296 / 65536) _ rfl rfl (ba_get _ _ (id hb)) ?_
        conv => cbv
        refine .i64 ((bitLen (x / 4294967296 / 65536) : Nat) : Int) (congrArg Nat.cast (len8tab_get _ (show _ < 256 from hb))) (by omega) (by omega) ?_
        conv => cbv
        refine .i64 ((48 + bitLen (x / 4294967296 / 65536) : Nat) : Int) (by simp) (by omega) (by omega) ?_
        conv => cbv
        exact hK.pure rfl (Mem.le_refl _) (congrArg (Value.int .i64) (congrArg Nat.cast (e.symm)))
    · replace h1 := of_decide_eq_false h1
      simp only [nc] at h1
      refine ⟨fun h2 => ?_, fun h2 => ?_⟩
      · replace h2 := of_decide_eq_true h2
        simp only [nc] at h2
        refine .shrN (x / 4294967296) 8 (x / 4294967296 / 256) rfl rfl (by decide) rfl ?_
        conv => cbv
        have e : bitLen x = 40 + bitLen (x / 4294967296 / 256) := by (have h32 : bitLen (x) = 32 + bitLen (x / 4294967296) := bitLen_shift (x) 32 (by simp; omega); have h8 : bitLen (x / 4294967296) = 8 + bitLen (x / 4294967296 / 256) := bitLen_shift (x / 4294967296) 8 (by simp; omega); omega)
        have hb : x / 4294967296 / 256 < 256 := by omega
        have hl := bitLen_le8 (x / 4294967296 / 256) hb
        refine .u8N (x / 4294967296 / 256) rfl hb ?_
        conv => cbv
        refine .mk _ (x / 4294967296 / 256) _ rfl rfl (ba_get _ _ (id hb)) ?_
        conv => cbv
        refine .i64 ((bitLen (x / 4294967296 / 256) : Nat) : Int) (congrArg Nat.cast (len8tab_get _ (show _ < 256 from hb))) (by omega) (by omega) ?_
        conv => cbv
        refine .i64 ((40 + bitLen (x / 4294967296 / 256) : Nat) : Int) (by simp) (by omega) (by omega) ?_
        conv => cbv
        exact hK.pure rfl (Mem.le_refl _) (congrArg (Value.int .i64) (congrArg Nat.cast (e.symm)))
      · replace h2 := of_decide_eq_false h2
        simp only [nc] at h2
        have e : bitLen x = 32 + bitLen (x / 4294967296) := by (have h32 : bitLen (x) = 32 + bitLen (x / 4294967296) := bitLen_shift (x) 32 (by simp; omega); omega)
        have hb : x / 4294967296 < 256 := by omega
        have hl := bitLen_le8 (x / 4294967296) hb
        refine .u8N (x / 4294967296) rfl hb ?_
        conv => cbv
        refine .mk _ (x / 4294967296) _ rfl rfl (ba_get _ _ (id hb)) ?_
        conv => cbv
        refine .i64 ((bitLen (x / 4294967296) : Nat) : Int) (congrArg Nat.cast (len8tab_get _ (show _ < 256 from hb))) (by omega) (by omega) ?_
        conv => cbv
        refine .i64 ((32 + bitLen (x / 4294967296) : Nat) : Int) (by simp) (by omega) (by omega) ?_
        conv => cbv
        exact hK.pure rfl (Mem.le_refl _) (congrArg (Value.int .i64) (congrArg Nat.cast (e.symm)))
  · replace h0 := of_decide_eq_false h0
    simp only [nc] at h0
    refine ⟨fun h1 => ?_, fun h1 => ?_⟩
    · replace h1 := of_decide_eq_true h1
      simp only [nc] at h1
      refine .shrN (x) 16 (x / 65536) rfl rfl (by decide) rfl ?_
      conv => cbv
      refine ⟨fun h2 => ?_, fun h2 => ?_⟩
      · replace h2 := of_decide_eq_true h2
        simp only [nc] at h2
        refine .shrN (x / 65536) 8 (x / 65536 / 256) rfl rfl (by decide) rfl ?_
        conv => cbv
        have e : bitLen x = 24 + bitLen (x / 65536 / 256) := by (have h16 : bitLen (x) = 16 + bitLen (x / 65536) := bitLen_shift (x) 16 (by simp; omega); have h8 : bitLen (x / 65536) = 8 + bitLen (x / 65536 / 256) := bitLen_shift (x / 65536) 8 (by simp; omega); omega)
        have hb : x / 65536 / 256 < 256 := by omega
        have hl := bitLen_le8 (x / 65536 / 256) hb
        refine .u8N (x / 65536 / 256) rfl hb ?_
        conv => cbv
        refine .mk _ (x / 65536 / 256) _ rfl rfl (ba_get _ _ (id hb)) ?_
        conv => cbv
        refine .i64 ((bitLen (x / 65536 / 256) : Nat) : Int) (congrArg Nat.cast (len8tab_get _ (show _ < 256 from hb))) (by omega) (by omega) ?_
        conv => cbv
        refine .i64 ((24 + bitLen (x / 65536 / 256) : Nat) : Int) (by simp) (by omega) (by omega) ?_
        conv => cbv
        exact hK.pure rfl (Mem.le_refl _) (congrArg (Value.int .i64) (congrArg Nat.cast (e.symm)))
      · replace h2 := of_decide_eq_false h2
        simp only [nc] at h2
        have e : bitLen x = 16 + bitLen (x / 65536) := by (have h16 : bitLen (x) = 16 + bitLen (x / 65536) := bitLen_shift (x) 16 (by simp; omega); omega)
        have hb : x / 65536 < 256 := by omega
        have hl := bitLen_le8 (x / 65536) hb
        refine .u8N (x / 65536) rfl hb ?_
        conv => cbv
        refine .mk _ (x / 65536) _ rfl rfl (ba_get _ _ (id hb)) ?_
        conv => cbv
        refine .i64 ((bitLen (x / 65536) : Nat) : Int) (congrArg Nat.cast (len8tab_get _ (show _ < 256 from hb))) (by omega) (by omega) ?_
        conv => cbv
        refine .i64 ((16 + bitLen (x / 65536) : Nat) : Int) (by simp) (by omega) (by omega) ?_
        conv => cbv
        exact hK.pure rfl (Mem.le_refl _) (congrArg (Value.int .i64) (congrArg Nat.cast (e.symm)))
    · replace h1 := of_decide_eq_false h1
      simp only [nc] at h1
      refine ⟨fun h2 => ?_, fun h2 => ?_⟩
      · replace h2 := of_decide_eq_true h2
        simp only [nc] at h2
        refine .shrN (x) 8 (x / 256) rfl rfl (by decide) rfl ?_
        conv => cbv
        have e : bitLen x = 8 + bitLen (x / 256) := by (have h8 : bitLen (x) = 8 + bitLen (x / 256) := bitLen_shift (x) 8 (by simp; omega); omega)
        have hb : x / 256 < 256 := by omega
        have hl := bitLen_le8 (x / 256) hb
        refine .u8N (x / 256) rfl hb ?_
        conv => cbv
        refine .mk _ (x / 256) _ rfl rfl (ba_get _ _ (id hb)) ?_
        conv => cbv
        refine .i64 ((bitLen (x / 256) : Nat) : Int) (congrArg Nat.cast (len8tab_get _ (show _ < 256 from hb))) (by omega) (by omega) ?_
        conv => cbv
        refine .i64 ((8 + bitLen (x / 256) : Nat) : Int) (by simp) (by omega) (by omega) ?_
        conv => cbv
        exact hK.pure rfl (Mem.le_refl _) (congrArg (Value.int .i64) (congrArg Nat.cast (e.symm)))
      · replace h2 := of_decide_eq_false h2
        simp only [nc] at h2
        have e : bitLen x = 0 + bitLen (x) := by simp
        have hb : x < 256 := by omega
        have hl := bitLen_le8 (x) hb
        refine .u8N (x) rfl hb ?_
        conv => cbv
        refine .mk _ (x) _ rfl rfl (ba_get _ _ (id hb)) ?_
        conv => cbv
        refine .i64 ((bitLen (x) : Nat) : Int) (congrArg Nat.cast (len8tab_get _ (show _ < 256 from hb))) (by omega) (by omega) ?_
        conv => cbv
        refine .i64 ((0 + bitLen (x) : Nat) : Int) (by simp) (by omega) (by omega) ?_
        conv => cbv
        exact hK.pure rfl (Mem.le_refl _) (congrArg (Value.int .i64) (congrArg Nat.cast (e.symm)))

theorem lz64_spec (x : Nat) (hx : x < 18446744073709551616) (M : Mem) : Pure1 124 #[.int .u64 x] M (.int .i64 ((64 - bitLen x : Nat) : Int)) := by
  have hl : bitLen x ≤ 64 := by
    unfold bitLen
    split
    · omega
    · rename_i h0
      have := (Nat.log2_lt h0).2 (show x < 2 ^ 64 from hx)
      omega
  refine ok124.pure 100 [.sym .u64 fun _ => (x : Int)] rfl (by kernel_rfl) fun c K hK => ?_
  conv => cbv
  refine CallS.pure (len64_spec x hx M) rfl (.sym .i64 fun _ => ((bitLen x : Nat) : Int)) rfl rfl ?_
  conv => cbv
  refine .i64 ((64 - bitLen x : Nat) : Int) (by show (64 : Int) - ((bitLen x : Nat) : Int) = _; omega) (by omega) (by omega) ?_
  conv => cbv
  exact hK.pure rfl (Mem.le_refl _) rfl

end Go.SX
