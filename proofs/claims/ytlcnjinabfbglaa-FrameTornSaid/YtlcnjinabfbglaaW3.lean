import Derived.Test.YtlcnjinabfbglaaW2
namespace Go.Proofs.Ytlcnjinabfbglaa
open Go.RowKit

/-- turned around by 15 to the right -/
def rot15 (c : BitVec 32) : BitVec 32 := BitVec.ofNat 32 (c.toNat / 32768 + c.toNat % 32768 * 131072)
def masked (c : BitVec 32) : BitVec 32 := BitVec.ofNat 32 (c.toNat / 32768 + c.toNat % 32768 * 131072 + 2726488792)
theorem rot_eq (c : BitVec 32) : bits .or .u32 (U c * 131072 % 4294967296) (U c / 32768) = U (rot15 c) := by
  have hc := c.isLt
  have e1 : U c * 131072 % 4294967296 = ((c.toNat % 32768 * 131072 : Nat) : Int) := by
    unfold U; omega
  have e2 : U c / 32768 = ((c.toNat / 32768 : Nat) : Int) := by simp [U]
  rw [e1, e2, u32_or_nat _ _ (by omega) (by omega), nat_join 17 _ _ (by omega) (by omega)]
  unfold U rot15
  rw [BitVec.toNat_ofNat]
  congr 1
  omega
theorem rot_any (c : BitVec 32) (w : World) : Calls Try.prog 49 #[u32 c, .int .i64 (-15)] w fun e w' => e = .returned (u32 (rot15 c)) ∧ w' = w := by
  have h := rot_eq c
  have h0 := U_lo c
  have h1 := U_hi c
  have hk : bits .and .u64 (IntKind.u64.wrap (-15)) 31 = 17 := by decide
  go_enter Try.func49, Try.ntmps49
  go_wp2
  go_ret
  exact ⟨rfl, rfl⟩

theorem masked_eq (c : BitVec 32) : (U (rot15 c) + 2726488792) % 4294967296 = U (masked c) := by
  unfold U rot15 masked
  rw [BitVec.toNat_ofNat, BitVec.toNat_ofNat]
  omega
theorem masked_any (v : Value) (l : List UInt8) (w : World) (hB : Bts w v l) :
    Calls Try.prog 16 #[v] w fun e w' => e = .returned (u32 (masked (Crc.on 0#32 l))) ∧ Below w.heap.size w w' := by
  go_enter Try.func16, Try.ntmps16
  go_wp2_with (first
    | (go_at_call 14; refine (of_any _ l _ hB).mono ?_; rintro e w1 ⟨rfl, hb1⟩)
    | (go_at_call 49; refine (rot_any _ _).mono ?_; rintro e w2 ⟨rfl, rfl⟩))
  go_ret
  exact ⟨ret_int (masked_eq _), hb1⟩
end Go.Proofs.Ytlcnjinabfbglaa
