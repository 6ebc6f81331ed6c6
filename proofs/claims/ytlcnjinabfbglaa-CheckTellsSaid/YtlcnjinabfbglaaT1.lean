import Derived.Test.YtlcnjinabfbglaaW6
import Derived.Test.YtlcnjinabfbglaaCrc2
import Derived.Deep.RegionHeld3
namespace Go.Proofs.Ytlcnjinabfbglaa
open Go.RowKit

theorem Try.info5 : (Try.prog.info? 5).map (fun i => (i.zero, i.size, i.bytes)) = some (some (.int .u8 0), 1, 1) := by kernel_rfl

theorem bit_of (c : BitVec 32) (k : Nat) : bits .and .u32 (U c / 2 ^ k) 1 = (if c.getLsbD k then 1 else 0) := by
  have e : U c / 2 ^ k = ((c.toNat / 2 ^ k : Nat) : Int) := by unfold U; push_cast; rfl
  have hlt : c.toNat / 2 ^ k < 4294967296 := Nat.lt_of_le_of_lt (Nat.div_le_self _ _) c.isLt
  have := u32_and_nat (c.toNat / 2 ^ k) 1 hlt (by omega)
  rw [Nat.and_one_is_mod] at this
  rw [e, show (1 : Int) = ((1 : Nat) : Int) from rfl, this, BitVec.getLsbD, Nat.testBit_eq_decide_div_mod_eq]
  generalize c.toNat / 2 ^ k = y
  by_cases h : y % 2 = 1
  · simp [h]
  · have : y % 2 = 0 := by omega
    simp [this]
/-- one store into a row of bytes -/
theorem byte_row {w : World} {g : Nat} {L : List UInt8} {sp : List Value} (h : w.heap[g]? = some (.cells (L.map by8 ++ sp).toArray 5 (0, 0))) {j : Nat} (hj : j < L.length) :
    w.cell? ⟨g, j, none⟩ = some (by8 (L.getD j 0)) ∧ w.frozen? ⟨g, j, none⟩ = false ∧ ∀ b, (w.setCell ⟨g, j, none⟩ (by8 b)).heap[g]? = some (.cells ((L.set j b).map by8 ++ sp).toArray 5 (0, 0)) := by
  have hu : (L.map by8)[j]? = some (by8 (L.getD j 0)) := by simp [hj]
  obtain ⟨h1, h2⟩ := row_cell h hu
  refine ⟨h1, h2, fun b => ?_⟩
  rw [row_set h (by simpa using hj), List.map_set]

theorem turn_val (x : UInt8) (k : Nat) : bits .xor .u8 (x.toNat : Int) (2 ^ (k % 8) % 256) = ((Crc.turnBit x (k % 8)).toNat : Int) := by
  have hk : k % 8 < 8 := by omega
  rw [Crc.turnBit_nat x _ hk]
  have hp : 2 ^ (k % 8) < 256 := by
    have := Nat.pow_lt_pow_right (a := 2) (by omega) hk
    exact this
  have e : (2 : Int) ^ (k % 8) % 256 = ((2 ^ (k % 8) : Nat) : Int) := by
    have : ((2 ^ (k % 8) : Nat) : Int) = (2 : Int) ^ (k % 8) := by push_cast; rfl
    rw [← this]
    clear this
    generalize 2 ^ (k % 8) = p at *
    omega
  rw [e]
  exact u8_xor_nat _ _ x.toNat_lt hp
theorem U_inj {c d : BitVec 32} (h : U c = U d) : c = d := by
  unfold U at h
  exact BitVec.eq_of_toNat_eq (by omega)
theorem U_beq (c d : BitVec 32) : (U c == U d) = decide (c = d) := by
  by_cases h : c = d
  · subst h; simp
  · have : U c ≠ U d := fun e => h (U_inj e)
    simp [h, this]
theorem masked_inj {c d : BitVec 32} (h : masked c = masked d) : c = d := by
  unfold masked at h
  have h1 := congrArg BitVec.toNat h
  rw [BitVec.toNat_ofNat, BitVec.toNat_ofNat] at h1
  have hc := c.isLt
  have hd := d.isLt
  obtain ⟨x, hx⟩ : ∃ x, x = c.toNat / 32768 + c.toNat % 32768 * 131072 := ⟨_, rfl⟩
  obtain ⟨y, hy⟩ : ∃ y, y = d.toNat / 32768 + d.toNat % 32768 * 131072 := ⟨_, rfl⟩
  rw [← hx, ← hy] at h1
  have hxl : x < 4294967296 := by omega
  have hyl : y < 4294967296 := by omega
  have hxy : x = y := by omega
  have c1 : c.toNat / 32768 = x % 131072 := by omega
  have c2 : c.toNat % 32768 = x / 131072 := by omega
  have d1 : d.toNat / 32768 = y % 131072 := by omega
  have d2 : d.toNat % 32768 = y / 131072 := by omega
  exact BitVec.eq_of_toNat_eq (by omega)

/-- k bytes of the sum done -/
def bth (a b : List UInt8) (k : Nat) : List UInt8 := (List.zipWith (· ^^^ ·) a b).take k ++ List.replicate (a.length - k) 0
theorem bth_zero (a b : List UInt8) : bth a b 0 = List.replicate a.length 0 := rfl
theorem bth_len (a b : List UInt8) (h : a.length = b.length) (k : Nat) (hk : k ≤ a.length) : (bth a b k).length = a.length := by
  unfold bth
  rw [List.length_append, List.length_take, List.length_zipWith, List.length_replicate]
  omega
theorem bth_full (a b : List UInt8) (h : a.length = b.length) : bth a b a.length = List.zipWith (· ^^^ ·) a b := by
  unfold bth
  rw [List.take_of_length_le (by rw [List.length_zipWith]; omega)]
  simp
theorem bth_step (a b : List UInt8) (h : a.length = b.length) (k : Nat) (hk : k < a.length) : (bth a b k).set k (a.getD k 0 ^^^ b.getD k 0) = bth a b (k + 1) := by
  unfold bth
  have hz : k < (List.zipWith (· ^^^ ·) a b).length := by rw [List.length_zipWith]; omega
  have h1 : ((List.zipWith (· ^^^ ·) a b).take k).length = k := by rw [List.length_take]; omega
  rw [show a.length - k = (a.length - (k + 1)) + 1 from by omega, List.replicate_succ, List.set_append_right _ _ (by omega), h1, Nat.sub_self, List.set_cons_zero]
  rw [List.take_succ_eq_append_getElem hz, List.append_assoc]
  congr 1
  have hb : k < b.length := by omega
  rw [List.getElem_zipWith]
  simp [hk, hb]
theorem xor8 (x y : UInt8) : bits .xor .u8 (x.toNat : Int) (y.toNat : Int) = ((x ^^^ y).toNat : Int) := by
  rw [u8_xor_nat _ _ x.toNat_lt y.toNat_lt, UInt8.toNat_xor]

theorem xor32 (c d : BitVec 32) : bits .xor .u32 (U c) (U d) = U (c ^^^ d) := by
  unfold U
  rw [u32_xor_nat _ _ c.isLt d.isLt, BitVec.toNat_xor]
theorem sums_beq (a b : List UInt8) (h : a.length = b.length) :
    (U (Crc.on 0#32 a ^^^ Crc.on 0#32 b ^^^ Crc.on 0#32 (List.zipWith (· ^^^ ·) a b)) == U (Crc.on 0#32 (List.replicate a.length 0))) = true := by
  rw [Crc.sums a b h]; simp
/-- the ways out ahead of the work -/
theorem checkTells_small (va vb : Value) (a b : List UInt8) (at_ mask : Int) (w : World) (hA : Bts w va a) (hB : Bts w vb b)
    (hout : a.length ≠ b.length ∨ a.length < 4 ∨ 300 < a.length ∨ at_ < 0) :
    Calls Try.prog 4 #[va, vb, .int .i64 at_, .int .u32 mask] w fun e w' => e = .returned (.bool true) ∧ Below w.heap.size w w' := by
  obtain ⟨ao, ca, rfl, h1, h2, h3⟩ := hA.form
  obtain ⟨bo, cb, rfl, k1, k2, k3⟩ := hB.form
  unfold maxLen at h2 k2
  by_cases hl : a.length = b.length
  · have hl' : ((a.length : Int) != (b.length : Int)) = false := by simp [hl]
    by_cases h4 : (a.length : Int) < 4
    · go_enter Try.func4, Try.ntmps4
      go_wp2_with (go_at_call 12; refine (known02_any _).mono ?_; rintro e w1 ⟨rfl, hb1⟩)
      go_ret
      exact ⟨rfl, hb1⟩
    · by_cases h5 : (300 : Int) < (a.length : Int)
      · go_enter Try.func4, Try.ntmps4
        go_wp2_with (go_at_call 12; refine (known02_any _).mono ?_; rintro e w1 ⟨rfl, hb1⟩)
        go_ret
        exact ⟨rfl, hb1⟩
      · have h6 : at_ < 0 := by omega
        go_enter Try.func4, Try.ntmps4
        go_wp2_with (go_at_call 12; refine (known02_any _).mono ?_; rintro e w1 ⟨rfl, hb1⟩)
        go_ret
        exact ⟨rfl, hb1⟩
  · have hl' : ((a.length : Int) != (b.length : Int)) = true := by simp; omega
    go_enter Try.func4, Try.ntmps4
    go_wp2_with (go_at_call 12; refine (known02_any _).mono ?_; rintro e w1 ⟨rfl, hb1⟩)
    go_ret
    exact ⟨rfl, hb1⟩

set_option maxRecDepth 100000 in
set_option maxHeartbeats 2000000 in
theorem checkTells_main (va vb : Value) (a b : List UInt8) (at_ : Nat) (mask : BitVec 32) (w : World) (hA : Bts w va a) (hB : Bts w vb b)
    (hl : a.length = b.length) (h4 : 4 ≤ a.length) (h300 : a.length ≤ 300) (hat : at_ < 9223372036854775808) :
    Calls Try.prog 4 #[va, vb, .int .i64 (at_ : Int), u32 mask] w fun e w' => e = .returned (.bool true) ∧ Below w.heap.size w w' := by
  obtain ⟨ao, ca, rfl, h1, h2, h3⟩ := hA.form
  obtain ⟨bo, cb, rfl, k1, k2, k3⟩ := hB.form
  unfold maxLen at h2 k2
  have hl' : ((a.length : Int) != (b.length : Int)) = false := by simp [hl]
  have h4' : ¬ (a.length : Int) < 4 := by omega
  have h5' : ¬ (300 : Int) < (a.length : Int) := by omega
  have h6' : ¬ (at_ : Int) < 0 := by omega
  obtain ⟨N, hN⟩ : ∃ N, N = w.heap.size := ⟨_, rfl⟩
  have HN := Lib.hid hN
  have HL := Lib.hid hl
  clear hN hl
  go_enter Try.func4, Try.ntmps4
  obtain ⟨T, hT⟩ : ∃ T, T = at_ % (8 * a.length - 31) := ⟨_, rfl⟩
  have hTl : T + 32 ≤ 8 * a.length := by have := Nat.mod_lt at_ (show 0 < 8 * a.length - 31 by omega); omega
  have hTI : (at_ : Int) % (8 * (a.length : Int) - 31) = (T : Int) := by
    rw [hT]; push_cast; congr 1; omega
  clear hT
  have HLIE := Lib.hid (fun (w1 : World) (hb1 : Below w.heap.size w w1) => ((hA.keep hb1).keep ((Below.refl _ _).alloc (Nat.le_refl _) (.cells #[] 5))).lie)
  go_wp2_with (first
    | (go_at_call 12; refine (known02_any _).mono ?_; rintro e w1 ⟨rfl, hb1⟩)
    | (at_builtin; refine wpList_app _ rfl _ _ 22 rfl N 5 (.int .u8 0) 1 Try.underlying22 Try.info5 (by decide) rfl (World.ownsRow_made w1 #[] 0 (by rw [HN.out]; exact hb1.size) (by decide) rfl) rfl ao a.length ca (a.map by8) rfl h3 (by simp) (HLIE.out w1 hb1) (by8_one a) (by omega) (by rw [HN.out]; have := hb1.size; simp; omega) ?_; intro v2 w2 hown2 hgr2 hbel2; rw [List.nil_append, Nat.zero_add] at hown2; obtain ⟨g, cap2, sp, rfl, hNg, hc2, hc2m, hrow⟩ := own_row hown2 (by omega); have HROW := Lib.hid hrow; clear hrow hown2 hgr2; unfold maxLen at hc2m))
  rw [hTI]
  have hbelow2 : Below N w w2 := by
    rw [HN.out] at hbel2 ⊢
    exact (hb1.alloc hb1.size _).trans hbel2
  clear hTI HLIE hbel2
  go_loopw [10] (fun i wr => ∃ k : Nat, k ≤ 32 ∧ i = .int .i64 k ∧ wr.heap[g]? = some (.cells ((Crc.tb a T mask k).map by8 ++ sp).toArray 5 (0, 0)) ∧ Below N w wr) (fun i _ => 32 - (intOf i).toNat)
  case atStart => exact ⟨0, Nat.zero_le _, rfl, HROW.out, hbelow2⟩
  case round =>
    clear HROW hbelow2
    obtain ⟨k, hk, rfl, hrow, hbel⟩ := hrel
    by_cases hlk : k < 32
    · have hdk : decide ((k : Int) < 32) = true := by simp; omega
      obtain ⟨hc, hf, hst⟩ := byte_row hrow (j := (T + k) / 8) (by rw [Crc.tb_len]; omega)
      have hbo := bit_of mask k
      have hU0 := U_lo mask
      have hU1 := U_hi mask
      cases hm : mask.getLsbD k with
      | true =>
        rw [hm] at hbo
        have hb1' : (bits .and .u32 (U mask / 2 ^ k) 1 == 1) = true := by rw [hbo]; rfl
        have hstep : Crc.tb a T mask (k + 1) = (Crc.tb a T mask k).set ((T + k) / 8) (Crc.turnBit ((Crc.tb a T mask k).getD ((T + k) / 8) 0) ((T + k) % 8)) := by
          rw [Crc.tb, if_pos hm]
        obtain ⟨x, hx⟩ : ∃ x, x = (Crc.tb a T mask k).getD ((T + k) / 8) 0 := ⟨_, rfl⟩
        rw [← hx] at hc hstep
        have hv := turn_val x (T + k)
        have HX := Lib.hid (show (wr.setCell ⟨g, (T + k) / 8, none⟩ (by8 (Crc.turnBit x ((T + k) % 8)))).heap[g]? = some (.cells ((Crc.tb a T mask (k + 1)).map by8 ++ sp).toArray 5 (0, 0)) by rw [hstep]; exact hst _)
        clear hrow hst hbo hx hstep hm
        go_wp2_with fail
        exact ⟨⟨k + 1, by omega, by go_num, HX.out, hbel.setCell (p := ⟨g, (T + k) / 8, none⟩) hNg _⟩, by simp [intOf]; omega⟩
      | false =>
        rw [hm] at hbo
        have hb1' : (bits .and .u32 (U mask / 2 ^ k) 1 == 1) = false := by rw [hbo]; rfl
        have HX := Lib.hid (show wr.heap[g]? = some (.cells ((Crc.tb a T mask (k + 1)).map by8 ++ sp).toArray 5 (0, 0)) by
          rw [Crc.tb, if_neg (by rw [hm]; decide)]; exact hrow)
        clear hrow hst hbo hc hf hm
        go_wp2_with fail
        exact ⟨⟨k + 1, by omega, by go_num, HX.out, hbel⟩, by simp [intOf]; omega⟩
    · have hk32 : k = 32 := by omega
      subst hk32
      have hlen := Crc.tb_len a T mask 32
      have hte := Crc.tells a T mask hTl
      obtain ⟨c, hc⟩ : ∃ c, c = Crc.tb a T mask 32 := ⟨_, rfl⟩
      rw [← hc] at hrow hlen hte
      have HROW := Lib.hid hrow
      have HLC := Lib.hid hlen
      clear hrow hc hlen
      have hz : (U mask == 0) = decide (mask = 0#32) := U_beq mask 0#32
      have hq1 := U_beq (Crc.on 0#32 a) (Crc.on 0#32 c)
      have hq2 := U_beq (masked (Crc.on 0#32 a)) (masked (Crc.on 0#32 c))
      have hq3 : masked (Crc.on 0#32 a) = masked (Crc.on 0#32 c) ↔ Crc.on 0#32 a = Crc.on 0#32 c := ⟨masked_inj, fun h => by rw [h]⟩
      rw [show decide (Crc.on 0#32 a = Crc.on 0#32 c) = decide (mask = 0#32) from by rw [decide_eq_decide]; exact hte] at hq1
      rw [show decide (masked (Crc.on 0#32 a) = masked (Crc.on 0#32 c)) = decide (mask = 0#32) from by rw [decide_eq_decide, hq3]; exact hte] at hq2
      obtain ⟨q, hq⟩ : ∃ q, q = decide (mask = 0#32) := ⟨_, rfl⟩
      rw [← hq] at hz hq1 hq2
      clear hq hq3 hte
      have hBC : Bts wr (.slice (some ⟨g, 0, none⟩) a.length cap2) c := by
        have := Sli.row HROW.out (cap := cap2) (by rw [List.length_map, HLC.out]; exact hc2) (by unfold maxLen; exact hc2m)
        rw [List.length_map, HLC.out] at this
        exact this
      rw [HN.out] at hbel
      go_wp2_with fail
      refine (of_any _ a _ (hA.keep hbel)).mono ?_
      rintro e w3 ⟨rfl, hb3⟩
      have hbel3 := Below.call hbel hb3
      go_wp2_with fail
      refine (of_any _ c _ (hBC.keep hb3)).mono ?_
      rintro e w4 ⟨rfl, hb4⟩
      have hbel4 := Below.call hbel3 hb4
      go_wp2_with fail
      refine (masked_any _ a _ (hA.keep hbel4)).mono ?_
      rintro e w5 ⟨rfl, hb5⟩
      have hbel5 := Below.call hbel4 hb5
      go_wp2_with fail
      refine (masked_any _ c _ (hBC.keep (Below.call (Below.call hb3 hb4) hb5))).mono ?_
      rintro e w6 ⟨rfl, hb6⟩
      have hbel6 := Below.call hbel5 hb6
      obtain ⟨i0, hi, hz0, hz1, hz2⟩ := info_parts Try.info5
      have HI := Lib.hid hi
      have HZ := Lib.hid (And.intro hz0 (And.intro hz1 hz2))
      clear hi hz0 hz1 hz2 hbel hbel3 hbel4 hbel5 hBC hb3 hb4 hb5 hb6
      go_wp2_with (at_make; refine wpList_make_full w6 rfl (.tmp 87) (.tmp 87) 22 rfl w.heap.size 5 i0 (.int .u8 0) 1 Try.underlying22 HI.out HZ.out.1 HZ.out.2.1 .i64 .i64 _ _ a.length rfl rfl rfl rfl (by rw [HZ.out.2.2]; omega) (by unfold maxLen; omega) hbel6.size ?_; intro w7 hown7 hgr7)
      obtain ⟨G, hG⟩ : ∃ G, G = w6.heap.size := ⟨_, rfl⟩
      rw [← hG] at hown7 ⊢
      obtain ⟨hNG, -, -, sp2, hrow2⟩ := own_at hown7
      have hr0 : (madeCells (Value.int .u8 0).cells (a.length * 1)).toList = (bth a b 0).map by8 := by
        rw [bth_zero, List.map_replicate, Nat.mul_one]
        exact toList_madeCells_one _ _
      rw [hr0] at hrow2
      have hbel7 : Below w.heap.size w w7 := hbel6.grown hgr7 hbel6.size (fun k hk => by cases hk)
      have HROW2 := Lib.hid hrow2
      clear hG hown7 hrow2 hr0 hgr7 HI HZ hbel6 hq1 hq2 hz
      go_loopw [12] (fun i wr => ∃ k : Nat, k ≤ a.length ∧ i = .int .i64 k ∧ wr.heap[G]? = some (.cells ((bth a b k).map by8 ++ sp2).toArray 5 (0, 0)) ∧ Below w.heap.size w wr) (fun i _ => a.length - (intOf i).toNat)
      case atStart => exact ⟨0, Nat.zero_le _, rfl, HROW2.out, hbel7⟩
      case round =>
        clear HROW2 hbel7
        obtain ⟨k, hk, rfl, hrow, hbel⟩ := hrel
        by_cases hlk : k < a.length
        · have hdk : decide ((k : Int) < (a.length : Int)) = true := by simp; omega
          have hL := HL.out
          obtain ⟨ba, offa, rfl, hbla, hca⟩ := Bts.at (hA.keep hbel) (by omega)
          obtain ⟨bb, offb, rfl, hblb, hcb⟩ := Bts.at (hB.keep hbel) (by omega)
          obtain ⟨hc, hf, hst⟩ := byte_row hrow (j := k) (by rw [bth_len a b hL k hk]; exact hlk)
          have hcak := hca k hlk
          have hcbk := hcb k (by omega)
          have hstep := bth_step a b hL k hlk
          obtain ⟨x, hx⟩ : ∃ x, x = a.getD k 0 := ⟨_, rfl⟩
          obtain ⟨y, hy⟩ : ∃ y, y = b.getD k 0 := ⟨_, rfl⟩
          rw [← hx] at hcak hstep
          rw [← hy] at hcbk hstep
          have HX := Lib.hid (show (wr.setCell ⟨G, k, none⟩ (by8 (x ^^^ y))).heap[G]? = some (.cells ((bth a b (k + 1)).map by8 ++ sp2).toArray 5 (0, 0)) by rw [← hstep]; exact hst _)
          have hxy := xor8 x y
          have hkb : (k : Int) < (b.length : Int) := by omega
          clear hrow hst hca hcb hx hy hstep hL
          go_wp2_with fail
          go_region
          all_goals go_wp2_with fail
          all_goals exact ⟨⟨k + 1, by omega, by go_num, HX.out, (hbel.setCell (p := ⟨G, k, none⟩) hNG _).drew⟩, by simp [intOf]; omega⟩
        · have hkn : k = a.length := by omega
          subst hkn
          have hBO : Bts wr (.slice (some ⟨G, 0, none⟩) a.length a.length) (List.zipWith (· ^^^ ·) a b) := by
            rw [bth_full a b HL.out] at hrow
            have hlz : (List.zipWith (· ^^^ ·) a b).length = a.length := by rw [List.length_zipWith, ← HL.out]; omega
            have := Sli.row hrow (cap := a.length) (by rw [List.length_map, hlz]; exact Nat.le_refl _) (by unfold maxLen; omega)
            rw [List.length_map, hlz] at this
            exact this
          have hsum := sums_beq a b HL.out
          have HSUM := Lib.hid hsum
          clear hrow hsum
          go_wp2_with fail
          have hmk := make_run (P := Try.prog) Try.underlying22 Try.info5 rfl a.length (by omega) (by unfold maxLen; omega)
          have hx1 := xor32 (Crc.on 0#32 a) (Crc.on 0#32 b)
          have hx2 := xor32 (Crc.on 0#32 a ^^^ Crc.on 0#32 b) (Crc.on 0#32 (List.zipWith (· ^^^ ·) a b))
          have hzz := fun w => zeros_lit w a.length 5 (by unfold maxLen; omega)
          have HZZ := Lib.hid hzz
          have hsum' := HSUM.out
          clear hzz
          go_region_held3 (fun w' => Below wr.heap.size wr w') (first | assumption | exact (Below.refl _ _).drew | exact Below.al (by assumption) _) (first
            | (go_at_call_of 14 (Value.slice ao a.length ca); refine (of_any _ a _ (hA.keep (Below.call hbel (by assumption)))).mono ?_; rintro e x1 ⟨rfl, hx1b⟩; have hx1c := Below.call (w := wr) (by assumption) hx1b)
            | (go_at_call_of 14 (Value.slice bo b.length cb); refine (of_any _ b _ (hB.keep (Below.call hbel (by assumption)))).mono ?_; rintro e x2 ⟨rfl, hx2b⟩; have hx2c := Below.call (w := wr) (by assumption) hx2b)
            | (go_at_call_of 14 (Value.slice (some ⟨G, 0, none⟩) a.length a.length); refine (of_any _ (List.zipWith (· ^^^ ·) a b) _ (hBO.keep (by assumption))).mono ?_; rintro e x3 ⟨rfl, hx3b⟩; have hx3c := Below.call (w := wr) (by assumption) hx3b)
            | (go_at_call 14; refine (of_any _ (List.replicate a.length 0) _ (by first | exact HZZ.out _ | exact (HZZ.out _).keep hx3b | exact ((HZZ.out _).keep hx2b).keep hx3b | exact (((HZZ.out _).keep hx1b).keep hx2b).keep hx3b | exact (((Sli.drew (HZZ.out wr)).keep hx1b).keep hx2b).keep hx3b)).mono ?_; rintro e x4 ⟨rfl, hx4b⟩; have hx4c := Below.call (w := wr) (by assumption) hx4b))
          all_goals go_wp2_with fail
          all_goals go_ret
          all_goals exact ⟨rfl, Below.call hbel (by assumption)⟩

theorem u32_of_wf {m : Int} (h : (Lit.int .u32 m).wf = true) : ∃ c : BitVec 32, m = U c := by
  simp [Lit.wf, IntKind.min, IntKind.max, IntKind.signed, IntKind.bits] at h
  refine ⟨BitVec.ofNat 32 m.toNat, ?_⟩
  unfold U
  rw [BitVec.toNat_ofNat]
  omega
/-- any input -/
theorem checkTells_all (va vb : Value) (a b : List UInt8) (at_ mask : Int) (w : World) (hA : Bts w va a) (hB : Bts w vb b) (h1 : (Lit.int .i64 at_).wf = true) (h2 : (Lit.int .u32 mask).wf = true) :
    Calls Try.prog 4 #[va, vb, .int .i64 at_, .int .u32 mask] w fun e w' => e = .returned (.bool true) ∧ Below w.heap.size w w' := by
  by_cases h : a.length ≠ b.length ∨ a.length < 4 ∨ 300 < a.length ∨ at_ < 0
  · exact checkTells_small va vb a b at_ mask w hA hB h
  · have h0 : 0 ≤ at_ := by omega
    obtain ⟨t, rfl⟩ := Int.eq_ofNat_of_zero_le h0
    obtain ⟨c, rfl⟩ := u32_of_wf h2
    simp [Lit.wf, IntKind.min, IntKind.max, IntKind.signed, IntKind.bits] at h1
    exact checkTells_main va vb a b t c w hA hB (by omega) (by omega) (by omega) (by omega)
end Go.Proofs.Ytlcnjinabfbglaa
