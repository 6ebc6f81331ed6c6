import Derived.Test.YtlcnjinabfbglaaW1
namespace Go.Proofs.Ytlcnjinabfbglaa
open Go.RowKit

theorem xorByte (c : BitVec 32) (x : UInt8) : bits .xor .u32 (U c) (x.toNat : Int) = U (c ^^^ Crc.wide x) := by
  have := x.toNat_lt
  unfold U
  rw [u32_xor_nat _ _ c.isLt (by omega), BitVec.toNat_xor]
  congr 2
  unfold Crc.wide
  rw [BitVec.toNat_ofNat, Nat.mod_eq_of_lt (by omega)]
theorem and15 (c : BitVec 32) : bits .and .u32 (U c) 15 = ((c.toNat % 16 : Nat) : Int) := by
  have := u32_and_nat c.toNat 15 c.isLt (by omega)
  rw [nat_mask4] at this
  exact this
theorem nibStep (c : BitVec 32) : bits .xor .u32 (U (nibT (c.toNat % 16))) (U c / 16) = U (Crc.turns 4 c) := by
  have h := u32_xor_nat (nibT (c.toNat % 16)).toNat (c.toNat / 16) (nibT _).isLt (by have := c.isLt; omega)
  rw [show ((c.toNat / 16 : Nat) : Int) = U c / 16 from by simp [U]] at h
  rw [show U (nibT (c.toNat % 16)) = ((nibT (c.toNat % 16)).toNat : Int) from rfl, h]
  unfold U
  rw [Crc.nib c, BitVec.toNat_xor, BitVec.toNat_ushiftRight, Nat.shiftRight_eq_div_pow]
  have : c &&& 15#32 = BitVec.ofNat 32 (c.toNat % 16) := by
    apply BitVec.eq_of_toNat_eq
    rw [BitVec.toNat_and, show (15#32).toNat = 15 from rfl, nat_mask4, BitVec.toNat_ofNat]
    omega
  rw [this]; rfl
theorem step_eq (c : BitVec 32) (x : UInt8) : Crc.turns 4 (Crc.turns 4 (c ^^^ Crc.wide x)) = Crc.step c x := by
  unfold Crc.step; rw [← Crc.turns_add]
theorem sig32 : IntKind.u32.signed = false := rfl
theorem not32 (c : BitVec 32) : bits .xor .u32 IntKind.u32.max (U c) = U (~~~ c) := by
  have h := u32_xor_nat 4294967295 c.toNat (by omega) c.isLt
  rw [show IntKind.u32.max = ((4294967295 : Nat) : Int) from by decide, show U c = (c.toNat : Int) from rfl, h]
  unfold U
  congr 1
theorem take_step (c : BitVec 32) (l : List UInt8) (k : Nat) (h : k < l.length) : (l.take (k + 1)).foldl Crc.step c = Crc.step ((l.take k).foldl Crc.step c) (l.getD k 0) := by
  rw [List.take_succ_eq_append_getElem h, List.foldl_append, List.getD_eq_getElem?_getD, List.getElem?_eq_getElem h]
  rfl

set_option maxRecDepth 100000 in
theorem on_any (c : BitVec 32) (v : Value) (l : List UInt8) (w : World) (hB : Bts w v l) :
    Calls Try.prog 15 #[u32 c, v] w fun e w' => e = .returned (u32 (Crc.on c l)) ∧ Below w.heap.size w w' := by
  obtain ⟨ao, cap, hv, h1, h2, h3⟩ := hB.form
  subst hv
  have hsz := tabArr_size 16
  have hsc := fun w => run_storeCells_new (P := Try.prog) w 71 zero16 (tabArr 16) (by rw [tabArr_size]; kernel_rfl) (by rw [zero16, tabArr_size, tabArr_size]) (tabArr_one 16)
  rw [zero16_eq] at hsc
  have hn := not32 c
  have hs := sig32
  unfold maxLen at h2
  go_enter Try.func15, Try.ntmps15
  go_wp2_with (go_at_call 48; refine (remainders_any _).mono ?_; rintro e w1 ⟨rfl, hb1⟩)
  have hB1 := hB.keep hb1
  have hbel : Below w.heap.size w (w1.alloc (.cells (tabArr 16) 71)) := hb1.alloc (by have := hb1.size; omega) _
  clear hsc hsz hn hB
  go_loop [0, 13] (fun a i => ∃ k : Nat, k ≤ l.length ∧ i = .int .i64 k ∧ a = u32 ((l.take k).foldl Crc.step (~~~ c))) (fun _ i => l.length - (intOf i).toNat)
  case atStart => exact ⟨0, Nat.zero_le _, rfl, rfl⟩
  case round =>
    obtain ⟨k, hk, rfl, rfl⟩ := hrel
    have HT := Lib.hid (take_step (~~~ c) l k)
    obtain ⟨C, hC⟩ : ∃ C, C = (l.take k).foldl Crc.step (~~~ c) := ⟨_, rfl⟩
    rw [← hC]
    rw [← hC] at HT
    have HC := Lib.hid hC
    clear hC
    by_cases hlt : k < l.length
    · obtain ⟨b, off, rfl, hbl, hc⟩ := Bts.at hB1 (by omega)
      have hck := hc k hlt
      obtain ⟨x, hx⟩ : ∃ x, x = l.getD k 0 := ⟨_, rfl⟩
      rw [← hx] at hck
      have hTS := HT.out hlt
      rw [← hx, ← step_eq] at hTS
      have HTS := Lib.hid hTS
      clear hTS HT hx hc
      have hx1 := xorByte C x
      obtain ⟨X, hX⟩ : ∃ X, X = C ^^^ Crc.wide x := ⟨_, rfl⟩
      rw [← hX] at hx1 HTS
      have hx2 := and15 X
      have hx3 := tabArr_get 16 (X.toNat % 16) (by omega)
      rw [if_pos (by omega)] at hx3
      have hx4 := nibStep X
      obtain ⟨Y, hY⟩ : ∃ Y, Y = Crc.turns 4 X := ⟨_, rfl⟩
      rw [← hY] at hx4 HTS
      have hy2 := and15 Y
      have hy3 := tabArr_get 16 (Y.toNat % 16) (by omega)
      rw [if_pos (by omega)] at hy3
      have hy4 := nibStep Y
      have hUX := U_lo X
      have hUY := U_lo Y
      have hXm : X.toNat % 16 < 16 := by omega
      have hYm : Y.toNat % 16 < 16 := by omega
      have hxl : (x.toNat : Int) < 256 := by have := x.toNat_lt; omega
      clear hX hY
      go_wp2
      exact ⟨⟨k + 1, by omega, by go_num, by rw [HTS.out]⟩, by simp [intOf]; omega⟩
    · have hcn := not32 C
      have HK := Lib.hid (show k = l.length by omega)
      go_wp2
      go_ret
      have e1 : U (~~~ C) = U (Crc.on c l) := by
        rw [HC.out, HK.out, List.take_length]; rfl
      exact ⟨ret_int e1, hbel⟩

theorem of_any (v : Value) (l : List UInt8) (w : World) (hB : Bts w v l) :
    Calls Try.prog 14 #[v] w fun e w' => e = .returned (u32 (Crc.on 0#32 l)) ∧ Below w.heap.size w w' := by
  have h0 : (.int .u32 0 : Value) = u32 0#32 := rfl
  go_enter Try.func14, Try.ntmps14
  go_wp2_with (go_at_call 15; rw [h0]; refine (on_any _ _ l _ hB).mono ?_; rintro e w1 ⟨rfl, hb1⟩)
  go_ret
  exact ⟨rfl, hb1⟩
end Go.Proofs.Ytlcnjinabfbglaa
