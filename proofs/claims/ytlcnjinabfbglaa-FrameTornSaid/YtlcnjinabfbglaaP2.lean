import Derived.Test.YtlcnjinabfbglaaP1
namespace Go.Proofs.Ytlcnjinabfbglaa
open Go.RowKit

theorem xor_ones (x : Nat) (hx : x < 18446744073709551616) : x ^^^ 18446744073709551615 = 18446744073709551615 - x := by
  have h2 := BitVec.toNat_not (x := BitVec.ofNat 64 x)
  have h3 : (~~~ (BitVec.ofNat 64 x)) = BitVec.ofNat 64 x ^^^ BitVec.allOnes 64 := by
    apply BitVec.eq_of_getLsbD_eq
    intro i hi
    rw [BitVec.getLsbD_not, BitVec.getLsbD_xor, BitVec.getLsbD_allOnes]
    simp [hi]
  rw [h3, BitVec.toNat_xor, BitVec.toNat_ofNat, BitVec.toNat_allOnes, Nat.mod_eq_of_lt hx] at h2
  exact h2
theorem zig_pos_eq (m : Int) (h : 0 ≤ m) (h2 : m ≤ 9223372036854775807) : bits .xor .u64 (m * 2) (m / 9223372036854775808) = ((Pk.zig m : Nat) : Int) := by
  have hz : Pk.zig m = (2 * m).toNat := by unfold Pk.zig; rw [if_pos h]
  have h0 : m / 9223372036854775808 = ((0 : Nat) : Int) := by omega
  obtain ⟨x, hx⟩ : ∃ x : Nat, (x : Int) = m * 2 := ⟨(m * 2).toNat, by omega⟩
  rw [h0, ← hx, u64_xor_nat x 0 (by omega) (by omega), Nat.xor_zero, hz]
  omega
theorem zig_neg_eq (m : Int) (h : m < 0) (h1 : -9223372036854775808 ≤ m) :
    bits .xor .u64 (IntKind.u64.wrap (IntKind.u64.wrap m * 2)) (IntKind.u64.wrap (m / 9223372036854775808)) = ((Pk.zig m : Nat) : Int) := by
  have hz : Pk.zig m = (-2 * m - 1).toNat := by unfold Pk.zig; rw [if_neg (by omega)]
  have e1 : IntKind.u64.wrap (m / 9223372036854775808) = ((18446744073709551615 : Nat) : Int) := by
    rw [IntKind.wrap_u64]; omega
  obtain ⟨x, hx⟩ : ∃ x : Nat, (x : Int) = IntKind.u64.wrap (IntKind.u64.wrap m * 2) := by
    rw [IntKind.wrap_u64, IntKind.wrap_u64]
    exact ⟨(m % 18446744073709551616 * 2 % 18446744073709551616).toNat, by omega⟩
  have hx2 := hx
  rw [IntKind.wrap_u64, IntKind.wrap_u64] at hx2
  have hxl : x < 18446744073709551616 := by omega
  rw [← hx, e1, u64_xor_nat x 18446744073709551615 hxl (by omega), xor_ones x hxl, hz]
  omega
theorem zig_pos_ref (m : Int) (h : 0 ≤ m) : 2 * m = ((Pk.zig m : Nat) : Int) := by unfold Pk.zig; rw [if_pos h]; omega
theorem zig_neg_ref (m : Int) (h : m < 0) : 2 * -(m + 1) + 1 = ((Pk.zig m : Nat) : Int) := by unfold Pk.zig; rw [if_neg (by omega)]; omega

set_option maxRecDepth 100000 in
theorem putInt_any (m : Int) (w : World) (h1 : -9223372036854775808 ≤ m) (h2 : m ≤ 9223372036854775807) :
    Calls Try.prog 23 #[.int .i64 m] w fun e w' => ∃ v, e = .returned v ∧ OwnB w.heap.size w' v (Pk.put (Pk.zig m)) ∧ Below w.heap.size w w' := by
  have hz := Pk.zig_lt m h1 h2
  by_cases h : 0 ≤ m
  · have hq := Lib.hid (zig_pos_eq m h h2)
    go_enter Try.func23, Try.ntmps23
    go_wp2_with fail
    rw [hq.out]
    refine (put_any _ _ hz).mono ?_
    rintro e w1 ⟨v1, rfl, hown1, hb1⟩
    go_wp2_with fail
    go_ret
    exact ⟨v1, rfl, hown1, hb1⟩
  · have hq := Lib.hid (zig_neg_eq m (by omega) h1)
    go_enter Try.func23, Try.ntmps23
    go_wp2_with fail
    rw [hq.out]
    refine (put_any _ _ hz).mono ?_
    rintro e w1 ⟨v1, rfl, hown1, hb1⟩
    go_wp2_with fail
    go_ret
    exact ⟨v1, rfl, hown1, hb1⟩
theorem refPutInt_any (m : Int) (w : World) (h1 : -9223372036854775808 ≤ m) (h2 : m ≤ 9223372036854775807) :
    Calls Try.prog 24 #[.int .i64 m] w fun e w' => ∃ v, e = .returned v ∧ OwnB w.heap.size w' v (Pk.put (Pk.zig m)) ∧ Below w.heap.size w w' := by
  have hz := Pk.zig_lt m h1 h2
  by_cases h : 0 ≤ m
  · have hq := Lib.hid (zig_pos_ref m h)
    go_enter Try.func24, Try.ntmps24
    go_wp2_with fail
    rw [hq.out]
    refine (refPut_any _ _ hz).mono ?_
    rintro e w1 ⟨v1, rfl, hown1, hb1⟩
    go_wp2_with fail
    go_ret
    exact ⟨v1, rfl, hown1, hb1⟩
  · have hq := Lib.hid (zig_neg_ref m (by omega))
    go_enter Try.func24, Try.ntmps24
    go_wp2_with fail
    rw [hq.out]
    refine (refPut_any _ _ hz).mono ?_
    rintro e w1 ⟨v1, rfl, hown1, hb1⟩
    go_wp2_with fail
    go_ret
    exact ⟨v1, rfl, hown1, hb1⟩

/-- slices.Grow of nothing: room, and nothing in it -/
theorem grow_any (n : Nat) (w : World) (hn : n ≤ 1099511627776) :
    Calls Try.prog 77 #[.slice none 0 0, .int .i64 (n : Int)] w fun e w' => ∃ v, e = .returned v ∧ OwnB w.heap.size w' v [] ∧ Below w.heap.size w w' := by
  by_cases h : n = 0
  · subst h
    go_enter Try.func77, Try.ntmps77
    go_wp2_with fail
    go_ret
    exact ⟨_, rfl, World.ownsRow_nil _ _ _ _, Below.refl _ _⟩
  · have h0 : (0 : Int) < (n : Int) := by omega
    have hby : Try.t5.bytes = 1 := rfl
    have hns := nextslicecap_zero (show 0 < n by omega)
    have hcut := grownCap_ge w n 0 5
    have hcm := grownCap_le_maxLen w n 0 5 (by unfold maxLen; omega)
    have HG : RowKit.Hid (grownCap w n 0 5 = (Question.appendCap n 0 5).cut (w.tape w.drawn (Question.appendCap n 0 5))) := rfl
    obtain ⟨C, hC⟩ : ∃ C, C = grownCap w n 0 5 := ⟨_, rfl⟩
    rw [← hC] at hcut hcm HG
    clear hC
    go_enter Try.func77, Try.ntmps77
    go_wp2_with fail
    rw [← HG.out]
    go_ret
    refine ⟨_, rfl, ?_, ((Below.refl _ _).alloc (Nat.le_refl _) _).drew⟩
    refine World.ownsRow.drew ?_
    refine World.ownsRow_made w _ C (Nat.le_refl _) hcm ?_
    rw [Array.size_append, size_zeroCells, size_zeroCells]
    simp
    omega
end Go.Proofs.Ytlcnjinabfbglaa
