import Derived.Test.YtlcnjinabfbglaaW3
namespace Go.Proofs.Ytlcnjinabfbglaa
open Go.RowKit

/-- a bit, as an integer: closed to the walk -/
def bI (b : Bool) : Int := if b then 1 else 0
abbrev bV (b : Bool) : Value := .int .i64 (bI b)
theorem bI_not (b : Bool) : 1 - bI b = bI (!b) := by cases b <;> rfl
theorem bI_lo (b : Bool) : 0 ≤ bI b := by cases b <;> decide
theorem bI_hi (b : Bool) : bI b ≤ 1 := by cases b <;> decide

/-- what has been gathered behind k bytes and m bits -/
def gath (l : List UInt8) (k m : Nat) : List Bool := Crc.bitsOf (l.take k) ++ (Crc.bits8 (l.getD k 0)).take m
theorem gath_zero (l : List UInt8) (k : Nat) : gath l k 0 = Crc.bitsOf (l.take k) := by simp [gath]
theorem gath_step (l : List UInt8) (k m : Nat) (h : m < 8) : gath l k (m + 1) = gath l k m ++ [(l.getD k 0).toNat.testBit m] := by
  unfold gath
  rw [List.append_assoc]
  congr 1
  rw [List.take_succ_eq_append_getElem (by rw [Crc.length_bits8]; omega)]
  congr 1
  simp [Crc.bits8]
theorem gath_full (l : List UInt8) (k : Nat) (h : k < l.length) : gath l k 8 = Crc.bitsOf (l.take (k + 1)) := by
  unfold gath Crc.bitsOf
  rw [List.take_of_length_le (l := Crc.bits8 _) (by rw [Crc.length_bits8]; omega), List.take_succ_eq_append_getElem h, List.flatMap_append]
  simp [h]
theorem gath_len (l : List UInt8) (k m : Nat) (hk : k ≤ l.length) (h : m ≤ 8) : (gath l k m).length = 8 * k + m := by
  unfold gath
  rw [List.length_append, Crc.length_bitsOf, List.length_take, List.length_take, Crc.length_bits8]
  omega
theorem bit_rem (x m : Nat) : ((x / 2 ^ m : Nat) : Int) % 2 = bI (x.testBit m) := by
  rw [Nat.testBit_eq_decide_div_mod_eq]
  unfold bI
  generalize x / 2 ^ m = y
  by_cases h : y % 2 = 1
  · simp [h]; omega
  · simp [h]; omega
theorem half_pow (x m : Nat) : ((x / 2 ^ m : Nat) : Int) / 2 = ((x / 2 ^ (m + 1) : Nat) : Int) := by
  rw [Nat.pow_succ, ← Nat.div_div_eq_div_mul]; rfl
theorem Try.info3 : (Try.prog.info? 3).map (fun i => (i.zero, i.size, i.bytes)) = some (some (.int .i64 0), 1, 8) := by kernel_rfl
/-- x, m bits taken off: closed to the walk -/
def sh (x m : Nat) : Int := ((x / 2 ^ m : Nat) : Int)
theorem sh_lo (x m : Nat) : 0 ≤ sh x m := Int.natCast_nonneg _
theorem sh_hi (x m : Nat) (h : x < 256) : sh x m < 256 := by
  unfold sh
  have := Nat.div_le_self x (2 ^ m)
  generalize x / 2 ^ m = y at *
  omega

theorem first_len (l : List UInt8) (m : Nat) : (Crc.first m (Crc.laid l)).length = 8 * l.length + 32 := by
  unfold Crc.first
  rw [Crc.length_flips]
  simp [Crc.laid, Crc.length_bitsOf]
theorem first_step (L : List Bool) (m : Nat) : Crc.first (m + 1) L = (Crc.first m L).set m (!((Crc.first m L).getD m false)) := by
  unfold Crc.first Crc.flips
  rw [List.range_succ, List.foldl_append]
  rfl
/-- one store into a row of bits -/
theorem bit_row {w : World} {g : Nat} {L : List Bool} {sp : List Value} (h : w.heap[g]? = some (.cells (L.map bV ++ sp).toArray 3 (0, 0))) {j : Nat} (hj : j < L.length) :
    w.cell? ⟨g, j, none⟩ = some (bV (L.getD j false)) ∧ w.frozen? ⟨g, j, none⟩ = false ∧ ∀ b, (w.setCell ⟨g, j, none⟩ (bV b)).heap[g]? = some (.cells ((L.set j b).map bV ++ sp).toArray 3 (0, 0)) := by
  have hu : (L.map bV)[j]? = some (bV (L.getD j false)) := by simp [hj]
  obtain ⟨h1, h2⟩ := row_cell h hu
  refine ⟨h1, h2, fun b => ?_⟩
  rw [row_set h (by simpa using hj), List.map_set]

/-- the powers, as the row holds them -/
def powV : Array Value := (Crc.powers.map fun (p : Nat) => (.int .i64 (p : Int) : Value)).toArray
theorem powV_eq : powV = #[.int .i64 28, .int .i64 27, .int .i64 26, .int .i64 25, .int .i64 23, .int .i64 22, .int .i64 20, .int .i64 19, .int .i64 18, .int .i64 14, .int .i64 13, .int .i64 11, .int .i64 10, .int .i64 9, .int .i64 8, .int .i64 6, .int .i64 0] := rfl
theorem powV_get (m : Nat) (h : m < 17) : powV[m]? = some (.int .i64 (Crc.powers.getD m 0 : Nat)) := by
  have hl : m < Crc.powers.length := h
  simp [powV, hl]
theorem pow_le (m : Nat) (h : m < 17) : Crc.powers.getD m 0 ≤ 28 := by
  revert m; decide
/-- m powers done, at i -/
def inner (L : List Bool) (i m : Nat) : List Bool := Crc.flips (L.set i false) ((Crc.powers.take m).map fun p => i + 32 - p)
theorem inner_len (L : List Bool) (i m : Nat) : (inner L i m).length = L.length := by
  unfold inner; rw [Crc.length_flips]; simp
theorem inner_zero (L : List Bool) (i : Nat) : inner L i 0 = L.set i false := rfl
theorem inner_step (L : List Bool) (i m : Nat) (h : m < 17) :
    inner L i (m + 1) = (inner L i m).set (i + 32 - Crc.powers.getD m 0) (!((inner L i m).getD (i + 32 - Crc.powers.getD m 0) false)) := by
  unfold inner Crc.flips
  have : Crc.powers.take (m + 1) = Crc.powers.take m ++ [Crc.powers.getD m 0] := by revert m; decide
  rw [this, List.map_append, List.foldl_append]
  rfl
theorem div_yes (L : List Bool) (i : Nat) (h : (Crc.divTo i L).getD i false = true) : Crc.divTo (i + 1) L = inner (Crc.divTo i L) i 17 := by
  show Crc.divStep i (Crc.divTo i L) = _
  unfold Crc.divStep
  rw [if_pos h]; rfl
theorem div_no (L : List Bool) (i : Nat) (h : (Crc.divTo i L).getD i false = false) : Crc.divTo (i + 1) L = Crc.divTo i L := by
  show Crc.divStep i (Crc.divTo i L) = _
  unfold Crc.divStep
  rw [h]; rfl
theorem divTo_len (l : List UInt8) (i : Nat) : (Crc.divTo i (Crc.first 32 (Crc.laid l))).length = 8 * l.length + 32 := by
  rw [Crc.length_divTo, first_len]
theorem bI_true : (bI true == 0) = false := rfl
theorem bI_false : (bI false == 0) = true := rfl

theorem told_int (l : List UInt8) (k : Nat) (hk : k < 32) :
    2 * sh (Crc.on 0#32 l).toNat (k + 1) + bI (!((Crc.divTo (8 * l.length) (Crc.first 32 (Crc.laid l))).getD (8 * l.length + k) false)) = sh (Crc.on 0#32 l).toNat k := by
  have h := Crc.told_step (Crc.refBits l) (Crc.bitsOf l).length (Crc.on 0#32 l) (Crc.ref_bits l) k hk
  unfold Crc.refBits at h
  rw [Crc.length_bitsOf] at h
  unfold sh
  rw [← h]
  cases (Crc.divTo (8 * l.length) (Crc.first 32 (Crc.laid l))).getD (8 * l.length + k) false <;> simp [bI]
theorem sh_top (c : BitVec 32) : sh c.toNat 32 = 0 := by
  have := c.isLt
  unfold sh
  rw [Nat.div_eq_of_lt this]; rfl
theorem sh_half (c : BitVec 32) (k : Nat) : sh c.toNat (k + 1) < 2147483648 := by
  have := c.isLt
  unfold sh
  rw [Nat.pow_succ, Nat.mul_comm, ← Nat.div_div_eq_div_mul]
  have := Nat.div_le_self (c.toNat / 2) (2 ^ k)
  generalize c.toNat / 2 / 2 ^ k = y at *
  omega
theorem sh_zero (c : BitVec 32) : sh c.toNat 0 = U c := by simp [sh, U]

set_option maxRecDepth 100000 in
set_option maxHeartbeats 1000000 in
theorem refOf_any (v : Value) (l : List UInt8) (w : World) (hB : Bts w v l) (hl : l.length ≤ 1000000) :
    Calls Try.prog 13 #[v] w fun e w' => e = .returned (u32 (Crc.on 0#32 l)) ∧ Below w.heap.size w w' := by
  obtain ⟨ao, cap, hv, h1, h2, h3⟩ := hB.form
  subst hv
  unfold maxLen at h2
  obtain ⟨N, hN⟩ : ∃ N, N = w.heap.size := ⟨_, rfl⟩
  have HN := Lib.hid hN
  clear hN
  go_enter Try.func13, Try.ntmps13
  go_wp2_with fail
  go_loopw [3, 4] (fun b i wr => ∃ k : Nat, k ≤ l.length ∧ i = .int .i64 k ∧ wr.ownsRow N 3 1 b (8 * k) ((gath l k 0).map bV) ∧ Below N w wr) (fun _ i _ => l.length - (intOf i).toNat)
  case atStart => exact ⟨0, Nat.zero_le _, rfl, World.ownsRow_nil _ _ _ _, Below.refl _ _⟩
  case round =>
    obtain ⟨k, hk, rfl, hown, hbel⟩ := hrel
    by_cases hlt : k < l.length
    · have hBr := hB.keep (by rw [← HN.out]; exact hbel)
      obtain ⟨b, off, rfl, hbl, hc⟩ := Bts.at hBr (by omega)
      have hck := hc k hlt
      clear hc hBr
      have hG := Lib.hid (gath_full l k hlt)
      have hGs := Lib.hid (gath_step l k)
      obtain ⟨x, hx⟩ : ∃ x, x = l.getD k 0 := ⟨_, rfl⟩
      rw [← hx] at hck hGs
      clear hx
      have hxl := x.toNat_lt
      have hd : decide ((k : Int) < (l.length : Int)) = true := by simp; omega
      have hsx : (x.toNat : Int) = sh x.toNat 0 := by simp [sh]
      go_wp2_with fail
      obtain ⟨wo, hwo⟩ : ∃ wo : World, wo = wr := ⟨_, rfl⟩
      rw [← hwo] at hown hbel hck hbl ⊢
      clear hwo
      go_loopw [3, 5, 6] (fun b y j wr => ∃ m : Nat, m ≤ 8 ∧ j = .int .i64 m ∧ y = .int .i64 (sh x.toNat m) ∧ wr.ownsRow N 3 1 b (8 * k + m) ((gath l k m).map bV) ∧ Below N w wr) (fun _ _ j _ => 8 - (intOf j).toNat)
      case atStart => exact ⟨0, Nat.zero_le _, rfl, rfl, hown, hbel⟩
      case round =>
        obtain ⟨m, hm, rfl, rfl, hown2, hbel2⟩ := hrel
        have hs0 := sh_lo x.toNat m
        have hs1 := sh_hi x.toNat m hxl
        by_cases hlm : m < 8
        · have hbr := bit_rem x.toNat m
          have hhp := half_pow x.toNat m
          have hdm : decide ((m : Int) < 8) = true := by simp; omega
          rw [show ((x.toNat / 2 ^ m : Nat) : Int) = sh x.toNat m from rfl] at hbr hhp
          rw [show ((x.toNat / 2 ^ (m + 1) : Nat) : Int) = sh x.toNat (m + 1) from rfl] at hhp
          have hNs := hbel2.size
          have hNw : N ≤ wr.heap.size := by rw [HN.out]; exact hNs
          go_wp2_with (at_builtin; refine wpList_app1 wr rfl _ _ 70 rfl N 3 (.int .i64 0) 8 Try.underlying70 Try.info3 (by decide) rfl hown2 (bV (x.toNat.testBit m)) rfl rfl rfl (by omega) hNw ?_; intro v' w' hown' hbel')
          exact ⟨⟨m + 1, by omega, by go_num, by rw [hhp], by rw [hGs.out m hlm, List.map_append]; exact hown', hbel2.trans hbel'⟩, by simp [intOf]; omega⟩
        · have hm8 : m = 8 := by omega
          subst hm8
          go_wp2_with fail
          exact ⟨⟨k + 1, by omega, by go_num, by rw [gath_zero, ← hG.out, show 8 * (k + 1) = 8 * k + 8 from by omega]; exact hown2, hbel2⟩, by simp [intOf]; omega⟩
    · have hkl : k = l.length := by omega
      subst hkl
      rw [gath_zero, List.take_length] at hown
      obtain ⟨ao3, cap3, rfl, hc3, hc3m⟩ := own_form hown
      unfold maxLen at hc3m
      go_wp2_with fail
      go_loopw [3, 8] (fun b i wr => ∃ m : Nat, m ≤ 32 ∧ i = .int .i64 m ∧ wr.ownsRow N 3 1 b (8 * l.length + m) ((Crc.bitsOf l ++ List.replicate m false).map bV) ∧ Below N w wr) (fun _ i _ => 32 - (intOf i).toNat)
      case atStart => exact ⟨0, Nat.zero_le _, rfl, by simpa using hown, hbel⟩
      case round =>
        obtain ⟨m, hm, rfl, hown2, hbel2⟩ := hrel
        have hNs := hbel2.size
        have hNw : N ≤ wr.heap.size := by rw [HN.out]; exact hNs
        clear hown hbel
        by_cases hlm : m < 32
        · have hdm : decide ((m : Int) < 32) = true := by simp; omega
          go_wp2_with (at_builtin; refine wpList_app1 wr rfl _ _ 70 rfl N 3 (.int .i64 0) 8 Try.underlying70 Try.info3 (by decide) rfl hown2 (.int .i64 0) rfl rfl rfl (by omega) hNw ?_; intro v' w' hown' hbel')
          exact ⟨⟨m + 1, by omega, by go_num, by rw [List.replicate_succ', ← List.append_assoc, List.map_append]; exact hown', hbel2.trans hbel'⟩, by simp [intOf]; omega⟩
        · have hm32 : m = 32 := by omega
          subst hm32
          obtain ⟨g, cap4, sp, rfl, hNg, hc4, hc4m, hrow⟩ := own_row hown2 (by omega)
          unfold maxLen at hc4m
          rw [show Crc.bitsOf l ++ List.replicate 32 false = Crc.first 0 (Crc.laid l) from rfl] at hrow
          clear hown2
          go_wp2_with fail
          obtain ⟨wo, hwo⟩ : ∃ wo : World, wo = wr := ⟨_, rfl⟩
          rw [← hwo] at hrow hbel2 hNs hNw ⊢
          clear hwo
          go_loopw [9] (fun i wr => ∃ m : Nat, m ≤ 32 ∧ i = .int .i64 m ∧ wr.heap[g]? = some (.cells ((Crc.first m (Crc.laid l)).map bV ++ sp).toArray 3 (0, 0)) ∧ Below N w wr) (fun i _ => 32 - (intOf i).toNat)
          case atStart => exact ⟨0, Nat.zero_le _, rfl, hrow, hbel2⟩
          case round =>
            clear hrow hbel2
            obtain ⟨m, hm, rfl, hrow, hbel⟩ := hrel
            by_cases hlm : m < 32
            · have hdm : decide ((m : Int) < 32) = true := by simp; omega
              obtain ⟨hc, hf, hst⟩ := bit_row hrow (j := m) (by rw [first_len]; omega)
              have hfs := Lib.hid (first_step (Crc.laid l) m)
              have HST := Lib.hid hst
              clear hst hrow
              obtain ⟨q, hq⟩ : ∃ q, q = (Crc.first m (Crc.laid l)).getD m false := ⟨_, rfl⟩
              rw [← hq] at hc hfs
              clear hq
              have hnot := bI_not q
              have hq0 := bI_lo q
              have hq1 := bI_hi q
              go_wp2
              exact ⟨⟨m + 1, by omega, by go_num, by rw [hfs.out]; exact HST.out _, hbel.setCell (p := ⟨g, m, none⟩) hNg _⟩, by simp [intOf]; omega⟩
            · have hm32 : m = 32 := by omega
              subst hm32
              go_wp2_with fail
              rw [← powV_eq]
              have hgs : g < wr.heap.size := (Array.getElem?_eq_some_iff.1 hrow).1
              obtain ⟨P, hP⟩ : ∃ P, P = wr.heap.size := ⟨_, rfl⟩
              have hrow0 : (wr.alloc (.cells powV 3)).heap[g]? = some (.cells ((Crc.divTo 0 (Crc.first 32 (Crc.laid l))).map bV ++ sp).toArray 3 (0, 0)) := by
                rw [Below.heap_alloc _ _ _ hgs]; exact hrow
              have hpow0 : (wr.alloc (.cells powV 3)).heap[P]? = some (.cells powV 3 (0, 0)) := by rw [hP]; exact heap_alloc_new _ _
              have hbel0 : Below N w (wr.alloc (.cells powV 3)) := hbel.alloc (by rw [HN.out]; exact hbel.size) _
              rw [← hP]
              have hgP : g < P := by rw [hP]; exact hgs
              clear hrow hP
              obtain ⟨F, hF⟩ : ∃ F, F = Crc.first 32 (Crc.laid l) := ⟨_, rfl⟩
              have hFl : ∀ i, (Crc.divTo i F).length = 8 * l.length + 32 := by rw [hF]; exact divTo_len l
              have HFl := Lib.hid hFl
              rw [← hF] at hrow0
              have HF := Lib.hid hF
              clear hF hFl
              go_loopw [11] (fun i wr => ∃ k : Nat, k ≤ 8 * l.length ∧ i = .int .i64 k ∧ wr.heap[g]? = some (.cells ((Crc.divTo k F).map bV ++ sp).toArray 3 (0, 0)) ∧ wr.heap[P]? = some (.cells powV 3 (0, 0)) ∧ Below N w wr) (fun i _ => 8 * l.length - (intOf i).toNat)
              case atStart => exact ⟨0, Nat.zero_le _, rfl, hrow0, hpow0, hbel0⟩
              case round =>
                clear hrow0 hpow0 hbel0 hbel
                obtain ⟨k, hk, rfl, hrow, hpow, hbel⟩ := hrel
                by_cases hlk : k < 8 * l.length
                · have hdk : decide ((k : Int) < 8 * (l.length : Int)) = true := by simp; omega
                  obtain ⟨hc, hf, hst⟩ := bit_row hrow (j := k) (by rw [HFl.out]; omega)
                  cases hq : (Crc.divTo k F).getD k false with
                  | false =>
                    rw [hq] at hc
                    have hdn := Lib.hid (div_no F k hq)
                    have hb0 := bI_false
                    have HR := Lib.hid hrow
                    have HP := Lib.hid hpow
                    clear hst hq hrow hpow
                    go_wp2_with fail
                    exact ⟨⟨k + 1, by omega, by go_num, by rw [hdn.out]; exact HR.out, HP.out, hbel⟩, by simp [intOf]; omega⟩
                  | true =>
                    rw [hq] at hc
                    have hdy := Lib.hid (div_yes F k hq)
                    have hb0 := bI_true
                    obtain ⟨hr0, hp0, hbe⟩ : (wr.setCell ⟨g, k, none⟩ (bV false)).heap[g]? = some (.cells ((inner (Crc.divTo k F) k 0).map bV ++ sp).toArray 3 (0, 0)) ∧ (wr.setCell ⟨g, k, none⟩ (bV false)).heap[P]? = some (.cells powV 3 (0, 0)) ∧ Below N w (wr.setCell ⟨g, k, none⟩ (bV false)) :=
                      ⟨by rw [inner_zero]; exact hst false, by rw [heap_setCell_other _ _ _ _ (by simp; omega)]; exact hpow, hbel.setCell (p := ⟨g, k, none⟩) hNg _⟩
                    have HR := Lib.hid hr0
                    have HP := Lib.hid hp0
                    clear hst hq hrow hpow hr0 hp0
                    go_wp2_with fail
                    rw [show (.int .i64 0 : Value) = bV false from rfl]
                    obtain ⟨wi, hwi⟩ : ∃ wi : World, wi = wr.setCell ⟨g, k, none⟩ (bV false) := ⟨_, rfl⟩
                    rw [← hwi] at HR HP hbe ⊢
                    clear hwi hc hf hbel
                    obtain ⟨D, hD⟩ : ∃ D, D = Crc.divTo k F := ⟨_, rfl⟩
                    have hDl : D.length = 8 * l.length + 32 := by rw [hD]; exact HFl.out k
                    have HDl := Lib.hid hDl
                    rw [← hD] at HR hdy
                    clear hD hDl
                    go_loopw [12] (fun i wr => ∃ m : Nat, m ≤ 17 ∧ i = .int .i64 m ∧ wr.heap[g]? = some (.cells ((inner D k m).map bV ++ sp).toArray 3 (0, 0)) ∧ wr.heap[P]? = some (.cells powV 3 (0, 0)) ∧ Below N w wr) (fun i _ => 17 - (intOf i).toNat)
                    case atStart => exact ⟨0, Nat.zero_le _, rfl, HR.out, HP.out, hbe⟩
                    case round =>
                      clear HR HP hbe
                      obtain ⟨m, hm, rfl, hrow, hpow, hbel⟩ := hrel
                      by_cases hlm : m < 17
                      · have hdm : decide ((m : Int) < 17) = true := by simp; omega
                        have hp1 := cell_of_row wr P m powV 3 (0, 0) hpow
                        rw [powV_get m hlm] at hp1
                        have hp28 := pow_le m hlm
                        have hist := inner_step D k m hlm
                        obtain ⟨p, hp⟩ : ∃ p, p = Crc.powers.getD m 0 := ⟨_, rfl⟩
                        rw [← hp] at hp1 hp28 hist
                        clear hp
                        obtain ⟨j, hj⟩ : ∃ j, j = k + 32 - p := ⟨_, rfl⟩
                        have hjI : (k : Int) + 32 - (p : Int) = (j : Int) := by omega
                        have hjl : j < 8 * l.length + 32 := by omega
                        rw [← hj] at hist
                        clear hj
                        obtain ⟨hc, hf, hst⟩ := bit_row hrow (j := j) (by rw [inner_len, HDl.out]; exact hjl)
                        obtain ⟨q, hq⟩ : ∃ q, q = (inner D k m).getD j false := ⟨_, rfl⟩
                        rw [← hq] at hc hist
                        clear hq
                        have hnot := bI_not q
                        have hq0 := bI_lo q
                        have hq1 := bI_hi q
                        have HS := Lib.hid (show (wr.setCell ⟨g, j, none⟩ (bV (!q))).heap[g]? = some (.cells ((inner D k (m + 1)).map bV ++ sp).toArray 3 (0, 0)) by rw [hist]; exact hst _)
                        have HP := Lib.hid (show (wr.setCell ⟨g, j, none⟩ (bV (!q))).heap[P]? = some (.cells powV 3 (0, 0)) by rw [heap_setCell_other _ _ _ _ (by simp; omega)]; exact hpow)
                        have hbe := hbel.setCell (p := ⟨g, j, none⟩) hNg (bV (!q))
                        clear hrow hpow hst hist
                        go_wp2_with fail
                        exact ⟨⟨m + 1, by omega, by go_num, HS.out, HP.out, hbe⟩, by simp [intOf]; omega⟩
                      · have hm17 : m = 17 := by omega
                        subst hm17
                        have HS := Lib.hid hrow
                        have HP := Lib.hid hpow
                        clear hrow hpow
                        go_wp2_with fail
                        exact ⟨⟨k + 1, by omega, by go_num, by rw [hdy.out]; exact HS.out, HP.out, hbel⟩, by simp [intOf]; omega⟩
                · have hkn : k = 8 * l.length := by omega
                  subst hkn
                  go_wp2_with fail
                  have htold := told_int l
                  rw [← HF.out] at htold
                  obtain ⟨D, hD⟩ : ∃ D, D = Crc.divTo (8 * l.length) F := ⟨_, rfl⟩
                  have hDl : D.length = 8 * l.length + 32 := by rw [hD]; exact HFl.out _
                  rw [← hD] at hrow htold
                  obtain ⟨C, hC⟩ : ∃ C, C = Crc.on 0#32 l := ⟨_, rfl⟩
                  rw [← hC] at htold
                  have HC := Lib.hid hC
                  have HTOLD := Lib.hid htold
                  have HROW := Lib.hid hrow
                  have HDl := Lib.hid hDl
                  clear hD hC htold hrow hpow hDl
                  go_loop [14, 15] (fun c i => ∃ k : Nat, k ≤ 32 ∧ i = .int .i64 ((k : Int) - 1) ∧ c = .int .u32 (sh C.toNat k)) (fun _ i => (intOf i + 1).toNat)
                  case atStart => exact ⟨32, by omega, rfl, by rw [sh_top]⟩
                  case round =>
                    obtain ⟨k, hk, hi, rfl⟩ := hrel
                    cases k with
                    | zero =>
                      rw [show ((0 : Nat) : Int) - 1 = -1 from rfl] at hi
                      subst hi
                      go_wp2_with fail
                      go_ret
                      exact ⟨ret_int (by rw [sh_zero, HC.out]), by rw [← HN.out]; exact hbel⟩
                    | succ k =>
                      rw [show ((k + 1 : Nat) : Int) - 1 = (k : Int) from by omega] at hi
                      subst hi
                      have h1 := HTOLD.out k (by omega)
                      obtain ⟨hc, -, -⟩ := bit_row HROW.out (j := 8 * l.length + k) (by rw [HDl.out]; omega)
                      obtain ⟨q, hq⟩ : ∃ q, q = D.getD (8 * l.length + k) false := ⟨_, rfl⟩
                      rw [← hq] at h1 hc
                      clear hq
                      have hnot := bI_not q
                      have hq0 := bI_lo q
                      have hq1 := bI_hi q
                      have hn0 := bI_lo (!q)
                      have hn1 := bI_hi (!q)
                      have hs0 := sh_lo C.toNat (k + 1)
                      have hs1 := sh_half C k
                      have hdk : decide (0 ≤ (k : Int)) = true := by simp
                      go_wp2_with fail
                      exact ⟨⟨k, by omega, rfl, rfl⟩, by simp [intOf]⟩

/-- the reference's mask is the same -/
theorem masked_ref (c : BitVec 32) : (U c / 32768 + U c % 32768 * 131072 + 2726488792) % 4294967296 = U (masked c) := by
  unfold U masked
  rw [BitVec.toNat_ofNat]
  omega
theorem refMasked_any (v : Value) (l : List UInt8) (w : World) (hB : Bts w v l) (hl : l.length ≤ 1000000) :
    Calls Try.prog 17 #[v] w fun e w' => e = .returned (u32 (masked (Crc.on 0#32 l))) ∧ Below w.heap.size w w' := by
  have h0 := U_lo (Crc.on 0#32 l)
  have h1 := U_hi (Crc.on 0#32 l)
  have hm := masked_ref (Crc.on 0#32 l)
  have hm0 := U_lo (masked (Crc.on 0#32 l))
  have hm1 := U_hi (masked (Crc.on 0#32 l))
  go_enter Try.func17, Try.ntmps17
  go_wp2_with (go_at_call 13; refine (refOf_any _ l _ hB hl).mono ?_; rintro e w1 ⟨rfl, hb1⟩)
  go_ret
  exact ⟨rfl, hb1⟩
end Go.Proofs.Ytlcnjinabfbglaa
