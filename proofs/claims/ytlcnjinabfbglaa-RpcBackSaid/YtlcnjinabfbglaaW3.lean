import Derived.Test.YtlcnjinabfbglaaRows
import Derived.Test.YtlcnjinabfbglaaCrc2
import Derived.Test.YtlcnjinabfbglaaSr2
namespace Go.Proofs.Ytlcnjinabfbglaa
open Go.RowKit

/-- a number of 32 bits, as an integer: closed to the walk -/
def U (c : BitVec 32) : Int := (c.toNat : Int)
theorem U_lo (c : BitVec 32) : 0 ≤ U c := by unfold U; omega
theorem U_hi (c : BitVec 32) : U c < 4294967296 := by have := c.isLt; unfold U; omega
/-- a number of 32 bits as a value -/
abbrev u32 (c : BitVec 32) : Value := .int .u32 (U c)

theorem turn_int (c : BitVec 32) : (Crc.turn c).toNat = (c.toNat / 2) ^^^ (if c.toNat % 2 = 1 then 2197175160 else 0) := by
  unfold Crc.turn
  rw [BitVec.toNat_xor, BitVec.toNat_ushiftRight, Nat.shiftRight_eq_div_pow]
  have h : c.getLsbD 0 = decide (c.toNat % 2 = 1) := by rw [BitVec.getLsbD, Nat.testBit_zero]
  rw [h]
  by_cases h1 : c.toNat % 2 = 1
  · simp [h1, Crc.poly]
  · simp [h1]
theorem and1 (c : BitVec 32) : bits .and .u32 (U c) 1 = ((c.toNat % 2 : Nat) : Int) := by
  have := u32_and_nat c.toNat 1 (c.isLt) (by omega)
  rw [Nat.and_one_is_mod] at this
  exact this
theorem half_lt (c : BitVec 32) : c.toNat / 2 < 4294967296 := by have := c.isLt; omega

theorem turn_any (c : BitVec 32) (w : World) : Calls Try.prog 76 #[u32 c] w fun e w' => e = .returned (u32 (Crc.turn c)) ∧ w' = w := by
  have h1 := and1 c
  have hp := U_lo c
  have hp2 := U_hi c
  by_cases hc : c.toNat % 2 = 1
  · have hx : bits .xor .u32 (U c / 2) 2197175160 = U (Crc.turn c) := by
      have := u32_xor_nat (c.toNat / 2) 2197175160 (half_lt c) (by omega)
      unfold U
      rw [turn_int, if_pos hc, ← this]; rfl
    rw [hc] at h1
    have h1' : (bits .and .u32 (U c) 1 == 1) = true := by rw [h1]; rfl
    clear h1 hc
    go_enter Try.func76, Try.ntmps76
    go_wp2
    go_ret
    exact ⟨rfl, rfl⟩
  · have hx : U c / 2 = U (Crc.turn c) := by
      unfold U
      rw [turn_int, if_neg hc, Nat.xor_zero]; rfl
    have hc0 : c.toNat % 2 = 0 := by omega
    rw [hc0] at h1
    have h1' : (bits .and .u32 (U c) 1 == 1) = false := by rw [h1]; rfl
    clear h1 hc hc0
    go_enter Try.func76, Try.ntmps76
    go_wp2
    go_ret
    exact ⟨rfl, rfl⟩

/-- the table of the half bytes -/
def nibT (j : Nat) : BitVec 32 := Crc.turns 4 (BitVec.ofNat 32 j)
def tabArr (k : Nat) : Array Value := ((List.range 16).map fun j => if j < k then u32 (nibT j) else u32 0#32).toArray
theorem tabArr_size (k : Nat) : (tabArr k).size = 16 := by simp [tabArr]
theorem tabArr_get (k j : Nat) (h : j < 16) : (tabArr k)[j]? = some (if j < k then u32 (nibT j) else u32 0#32) := by
  simp [tabArr, h]
theorem tabArr_set (k : Nat) (h : k < 16) : (tabArr k).setIfInBounds k (u32 (nibT k)) = tabArr (k + 1) := by
  apply Array.ext_getElem?
  intro i
  rw [Array.getElem?_setIfInBounds]
  by_cases hi : i < 16
  · rw [tabArr_get k i hi, tabArr_get (k + 1) i hi, tabArr_size]
    by_cases hk : k = i
    · subst hk; simp [h]
    · have h1 : (i < k + 1) ↔ (i < k) := by omega
      simp [hk, h1]
  · have h1 : (tabArr k)[i]? = none := by rw [Array.getElem?_eq_none]; rw [tabArr_size]; omega
    have h2 : (tabArr (k + 1))[i]? = none := by rw [Array.getElem?_eq_none]; rw [tabArr_size]; omega
    rw [h1, h2]
    split
    · omega
    · rfl
def zero16 : Array Value := tabArr 0
theorem zero16_eq : zero16 = #[.int .u32 0, .int .u32 0, .int .u32 0, .int .u32 0, .int .u32 0, .int .u32 0, .int .u32 0, .int .u32 0, .int .u32 0, .int .u32 0, .int .u32 0, .int .u32 0, .int .u32 0, .int .u32 0, .int .u32 0, .int .u32 0] := rfl
theorem u32_of_nat (k : Nat) (h : k < 16) : (.int .u32 (k : Int) : Value) = u32 (BitVec.ofNat 32 k) := by
  simp only [u32, U, BitVec.toNat_ofNat]
  rw [Nat.mod_eq_of_lt (by omega)]
theorem turns_snoc (j : Nat) (c : BitVec 32) : Crc.turns (j + 1) c = Crc.turn (Crc.turns j c) := by
  rw [Crc.turns_add]; rfl

theorem tabArr_one (k : Nat) : (tabArr k).all (·.oneCell') = true := by
  rw [Array.all_eq_true_iff_forall_mem]
  intro v hv
  simp only [tabArr, List.mem_toArray, List.mem_map] at hv
  obtain ⟨j, _, rfl⟩ := hv
  split <;> rfl

set_option maxRecDepth 100000 in
theorem remainders_any (w : World) :
    Calls Try.prog 48 #[] w fun e w' => e = .returned (.agg (tabArr 16)) ∧ Below w.heap.size w w' := by
  go_enter Try.func48, Try.ntmps48
  go_wp2
  rw [← zero16_eq]
  go_loopw [5] (fun i wr => ∃ k : Nat, k ≤ 16 ∧ i = .int .i64 k ∧ wr = (w.alloc (.cells zero16 71)).alloc (.cells (tabArr k) 71)) (fun i _ => 16 - (intOf i).toNat)
  case atStart => exact ⟨0, by omega, rfl, rfl⟩
  case round =>
    obtain ⟨k, hk, rfl, hw⟩ := hrel
    by_cases hlt : k < 16
    · have hu := u32_of_nat k hlt
      have hd : decide ((k : Int) < 16) = true := by simp; omega
      have HU := Lib.hid hu
      clear hu
      obtain ⟨wo, hwo⟩ : ∃ wo : World, wo = wr := ⟨_, rfl⟩
      subst hw
      go_wp2
      go_loop [4, 10] (fun c j => ∃ m : Nat, m ≤ 4 ∧ j = .int .i64 m ∧ c = u32 (Crc.turns m (BitVec.ofNat 32 k))) (fun _ j => 4 - (intOf j).toNat)
      case atStart => exact ⟨0, by omega, rfl, HU.out⟩
      case round =>
        obtain ⟨m, hm, rfl, rfl⟩ := hrel
        by_cases hlm : m < 4
        · have hs := Lib.hid (turns_snoc m (BitVec.ofNat 32 k))
          go_wp2_with (go_at_call 76; refine (turn_any _ _).mono ?_; rintro e w' ⟨rfl, rfl⟩)
          go_round
          case rel => exact ⟨m + 1, by omega, by go_num, by rw [hs.out]⟩
          case measure => simp [intOf]; omega
        · have hm4 : m = 4 := by omega
          subst hm4
          have hset := tabArr_set k hlt
          unfold nibT at hset
          have hget := tabArr_get k k hlt
          have hdf : decide ((4 : Int) < 4) = false := by decide
          go_wp2
          exact ⟨⟨k + 1, by omega, by go_num, rfl⟩, by simp [intOf]; omega⟩
    · have hk16 : k = 16 := by omega
      subst hk16
      subst hw
      have hdf : decide ((16 : Int) < 16) = false := by decide
      obtain ⟨T, hT⟩ : ∃ T, T = tabArr 16 := ⟨_, rfl⟩
      rw [← hT]
      obtain ⟨Z, hZ⟩ : ∃ Z, Z = zero16 := ⟨_, rfl⟩
      rw [← hZ]
      have HG1 := Lib.hid (heap_alloc2_new w (.cells Z 71) (.cells T 71))
      have HG0 := Lib.hid (heap_alloc2_old w (.cells Z 71) (.cells T 71))
      have HSZ := Lib.hid (show (Try.prog.info? 71).map (·.size) = some T.size by rw [hT, tabArr_size]; kernel_rfl)
      have HZT := Lib.hid (show Z.size = T.size by rw [hT, hZ, zero16, tabArr_size, tabArr_size])
      have HT1 := Lib.hid (show T.all (·.oneCell') = true by rw [hT]; exact tabArr_one 16)
      have HT := Lib.hid hT
      clear hT hZ
      go_wp2_with (first
        | (with_reducible refine wpList_load_row (o := ⟨some 20, _, _, _, _, _⟩) rfl 71 (.tmp 1) rfl (w.heap.size + 1) ?e1 71 T (0, 0) _ HG1.out Try.underlying71 rfl HSZ.out ?e2)
        | (with_reducible refine wpList_store_row (o := ⟨none, .store 71 _ _, _, _, _, _⟩) rfl 71 (.tmp 0) (.tmp 20) rfl w.heap.size T ?e3 ?e4 71 Z HG0.out HSZ.out HZT.out HT1.out ?e5))
      case e1 => rfl
      case e5 =>
        refine bodyPost_ret (v := .agg T) (results_cell_row (p := 0) (ty := 71) rfl _ _ w.heap.size 71 T (0, 0) _ rfl (setRow_heap _ _ _ _ _ _ HG0.out) Try.underlying71 rfl HSZ.out) rfl ⟨by rw [HT.out], ?_⟩
        exact below_setRow ((((Below.refl _ _).alloc (Nat.le_refl _) _).alloc (by simp) _)) (Nat.le_refl _) _
end Go.Proofs.Ytlcnjinabfbglaa
namespace Go.Proofs.Ytlcnjinabfbglaa
open Go.RowKit

theorem xorByte (c : BitVec 32) (x : UInt8) : bits .xor .u32 (U c) (x.toNat : Int) = U (c ^^^ Crc.wide x) := by
  have := x.toNat_lt
  unfold U
  rw [u32_xor_nat _ _ c.isLt (by omega), BitVec.toNat_xor]
  congr 2
  unfold Crc.wide
  rw [BitVec.toNat_ofNat, Nat.mod_eq_of_lt (by omega)]
theorem and15 (c : BitVec 32) : bits .and .u32 (U c) 15 = ((c.toNat % 16 : Nat) : Int) := by
  have := u32_and_nat c.toNat 15 c.isLt (by omega)
  rw [nat_mask4] at this
  exact this
theorem nibStep (c : BitVec 32) : bits .xor .u32 (U (nibT (c.toNat % 16))) (U c / 16) = U (Crc.turns 4 c) := by
  have h := u32_xor_nat (nibT (c.toNat % 16)).toNat (c.toNat / 16) (nibT _).isLt (by have := c.isLt; omega)
  rw [show ((c.toNat / 16 : Nat) : Int) = U c / 16 from by simp [U]] at h
  rw [show U (nibT (c.toNat % 16)) = ((nibT (c.toNat % 16)).toNat : Int) from rfl, h]
  unfold U
  rw [Crc.nib c, BitVec.toNat_xor, BitVec.toNat_ushiftRight, Nat.shiftRight_eq_div_pow]
  have : c &&& 15#32 = BitVec.ofNat 32 (c.toNat % 16) := by
    apply BitVec.eq_of_toNat_eq
    rw [BitVec.toNat_and, show (15#32).toNat = 15 from rfl, nat_mask4, BitVec.toNat_ofNat]
    omega
  rw [this]; rfl
theorem step_eq (c : BitVec 32) (x : UInt8) : Crc.turns 4 (Crc.turns 4 (c ^^^ Crc.wide x)) = Crc.step c x := by
  unfold Crc.step; rw [← Crc.turns_add]
theorem sig32 : IntKind.u32.signed = false := rfl
theorem not32 (c : BitVec 32) : bits .xor .u32 IntKind.u32.max (U c) = U (~~~ c) := by
  have h := u32_xor_nat 4294967295 c.toNat (by omega) c.isLt
  rw [show IntKind.u32.max = ((4294967295 : Nat) : Int) from by decide, show U c = (c.toNat : Int) from rfl, h]
  unfold U
  congr 1
theorem take_step (c : BitVec 32) (l : List UInt8) (k : Nat) (h : k < l.length) : (l.take (k + 1)).foldl Crc.step c = Crc.step ((l.take k).foldl Crc.step c) (l.getD k 0) := by
  rw [List.take_succ_eq_append_getElem h, List.foldl_append, List.getD_eq_getElem?_getD, List.getElem?_eq_getElem h]
  rfl

set_option maxRecDepth 100000 in
theorem on_any (c : BitVec 32) (v : Value) (l : List UInt8) (w : World) (hB : Bts w v l) :
    Calls Try.prog 15 #[u32 c, v] w fun e w' => e = .returned (u32 (Crc.on c l)) ∧ Below w.heap.size w w' := by
  obtain ⟨ao, cap, hv, h1, h2, h3⟩ := hB.form
  subst hv
  have hsz := tabArr_size 16
  have hsc := fun w => run_storeCells_new (P := Try.prog) w 71 zero16 (tabArr 16) (by rw [tabArr_size]; kernel_rfl) (by rw [zero16, tabArr_size, tabArr_size]) (tabArr_one 16)
  rw [zero16_eq] at hsc
  have hn := not32 c
  have hs := sig32
  unfold maxLen at h2
  go_enter Try.func15, Try.ntmps15
  go_wp2_with (go_at_call 48; refine (remainders_any _).mono ?_; rintro e w1 ⟨rfl, hb1⟩)
  have hB1 := hB.keep hb1
  have hbel : Below w.heap.size w (w1.alloc (.cells (tabArr 16) 71)) := hb1.alloc (by have := hb1.size; omega) _
  clear hsc hsz hn hB
  go_loop [0, 13] (fun a i => ∃ k : Nat, k ≤ l.length ∧ i = .int .i64 k ∧ a = u32 ((l.take k).foldl Crc.step (~~~ c))) (fun _ i => l.length - (intOf i).toNat)
  case atStart => exact ⟨0, Nat.zero_le _, rfl, rfl⟩
  case round =>
    obtain ⟨k, hk, rfl, rfl⟩ := hrel
    have HT := Lib.hid (take_step (~~~ c) l k)
    obtain ⟨C, hC⟩ : ∃ C, C = (l.take k).foldl Crc.step (~~~ c) := ⟨_, rfl⟩
    rw [← hC]
    rw [← hC] at HT
    have HC := Lib.hid hC
    clear hC
    by_cases hlt : k < l.length
    · obtain ⟨b, off, rfl, hbl, hc⟩ := Bts.at hB1 (by omega)
      have hck := hc k hlt
      obtain ⟨x, hx⟩ : ∃ x, x = l.getD k 0 := ⟨_, rfl⟩
      rw [← hx] at hck
      have hTS := HT.out hlt
      rw [← hx, ← step_eq] at hTS
      have HTS := Lib.hid hTS
      clear hTS HT hx hc
      have hx1 := xorByte C x
      obtain ⟨X, hX⟩ : ∃ X, X = C ^^^ Crc.wide x := ⟨_, rfl⟩
      rw [← hX] at hx1 HTS
      have hx2 := and15 X
      have hx3 := tabArr_get 16 (X.toNat % 16) (by omega)
      rw [if_pos (by omega)] at hx3
      have hx4 := nibStep X
      obtain ⟨Y, hY⟩ : ∃ Y, Y = Crc.turns 4 X := ⟨_, rfl⟩
      rw [← hY] at hx4 HTS
      have hy2 := and15 Y
      have hy3 := tabArr_get 16 (Y.toNat % 16) (by omega)
      rw [if_pos (by omega)] at hy3
      have hy4 := nibStep Y
      have hUX := U_lo X
      have hUY := U_lo Y
      have hXm : X.toNat % 16 < 16 := by omega
      have hYm : Y.toNat % 16 < 16 := by omega
      have hxl : (x.toNat : Int) < 256 := by have := x.toNat_lt; omega
      clear hX hY
      go_wp2
      exact ⟨⟨k + 1, by omega, by go_num, by rw [HTS.out]⟩, by simp [intOf]; omega⟩
    · have hcn := not32 C
      have HK := Lib.hid (show k = l.length by omega)
      go_wp2
      go_ret
      have e1 : U (~~~ C) = U (Crc.on c l) := by
        rw [HC.out, HK.out, List.take_length]; rfl
      exact ⟨ret_int e1, hbel⟩

theorem of_any (v : Value) (l : List UInt8) (w : World) (hB : Bts w v l) :
    Calls Try.prog 14 #[v] w fun e w' => e = .returned (u32 (Crc.on 0#32 l)) ∧ Below w.heap.size w w' := by
  have h0 : (.int .u32 0 : Value) = u32 0#32 := rfl
  go_enter Try.func14, Try.ntmps14
  go_wp2_with (go_at_call 15; rw [h0]; refine (on_any _ _ l _ hB).mono ?_; rintro e w1 ⟨rfl, hb1⟩)
  go_ret
  exact ⟨rfl, hb1⟩
end Go.Proofs.Ytlcnjinabfbglaa
namespace Go.Proofs.Ytlcnjinabfbglaa
open Go.RowKit

/-- turned around by 15 to the right -/
def rot15 (c : BitVec 32) : BitVec 32 := BitVec.ofNat 32 (c.toNat / 32768 + c.toNat % 32768 * 131072)
def masked (c : BitVec 32) : BitVec 32 := BitVec.ofNat 32 (c.toNat / 32768 + c.toNat % 32768 * 131072 + 2726488792)
theorem rot_eq (c : BitVec 32) : bits .or .u32 (U c * 131072 % 4294967296) (U c / 32768) = U (rot15 c) := by
  have hc := c.isLt
  have e1 : U c * 131072 % 4294967296 = ((c.toNat % 32768 * 131072 : Nat) : Int) := by
    unfold U; omega
  have e2 : U c / 32768 = ((c.toNat / 32768 : Nat) : Int) := by simp [U]
  rw [e1, e2, u32_or_nat _ _ (by omega) (by omega), nat_join 17 _ _ (by omega) (by omega)]
  unfold U rot15
  rw [BitVec.toNat_ofNat]
  congr 1
  omega
theorem rot_any (c : BitVec 32) (w : World) : Calls Try.prog 49 #[u32 c, .int .i64 (-15)] w fun e w' => e = .returned (u32 (rot15 c)) ∧ w' = w := by
  have h := rot_eq c
  have h0 := U_lo c
  have h1 := U_hi c
  have hk : bits .and .u64 (IntKind.u64.wrap (-15)) 31 = 17 := by decide
  go_enter Try.func49, Try.ntmps49
  go_wp2
  go_ret
  exact ⟨rfl, rfl⟩

theorem masked_eq (c : BitVec 32) : (U (rot15 c) + 2726488792) % 4294967296 = U (masked c) := by
  unfold U rot15 masked
  rw [BitVec.toNat_ofNat, BitVec.toNat_ofNat]
  omega
theorem masked_any (v : Value) (l : List UInt8) (w : World) (hB : Bts w v l) :
    Calls Try.prog 16 #[v] w fun e w' => e = .returned (u32 (masked (Crc.on 0#32 l))) ∧ Below w.heap.size w w' := by
  go_enter Try.func16, Try.ntmps16
  go_wp2_with (first
    | (go_at_call 14; refine (of_any _ l _ hB).mono ?_; rintro e w1 ⟨rfl, hb1⟩)
    | (go_at_call 49; refine (rot_any _ _).mono ?_; rintro e w2 ⟨rfl, rfl⟩))
  go_ret
  exact ⟨ret_int (masked_eq _), hb1⟩
end Go.Proofs.Ytlcnjinabfbglaa
