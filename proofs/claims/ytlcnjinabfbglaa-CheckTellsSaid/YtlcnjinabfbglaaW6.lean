import Derived.Test.YtlcnjinabfbglaaW5
import Derived.Deep.RegionWith
import Derived.Deep.RegionHeld3
namespace Go.Proofs.Ytlcnjinabfbglaa
open Go.RowKit

theorem Try.size5 : (Try.prog.info? 5).map (·.size) = some 1 := by kernel_rfl
theorem on_split (l : List UInt8) (k : Nat) : Crc.on (Crc.on 0#32 (l.take k)) (l.drop k) = Crc.on 0#32 l := by
  unfold Crc.on
  rw [BitVec.not_not, ← List.foldl_append, List.take_append_drop]
theorem U_self (c : BitVec 32) : (U c == U c) = true := by simp

theorem checkOf_small (v : Value) (l : List UInt8) (cut : Int) (w : World) (hB : Bts w v l) (hout : 300 < l.length ∨ cut < 0 ∨ (l.length : Int) < cut) :
    Calls Try.prog 3 #[v, .int .i64 cut] w fun e w' => e = .returned (.bool true) ∧ Below w.heap.size w w' := by
  obtain ⟨ao, cap, rfl, h1, h2, h3⟩ := hB.form
  unfold maxLen at h2
  by_cases hl : (300 : Int) < (l.length : Int)
  · go_enter Try.func3, Try.ntmps3
    go_wp2_with (go_at_call 12; refine (known02_any _).mono ?_; rintro e w1 ⟨rfl, hb1⟩)
    go_ret
    exact ⟨rfl, hb1⟩
  · by_cases hc : cut < 0
    · go_enter Try.func3, Try.ntmps3
      go_wp2_with (go_at_call 12; refine (known02_any _).mono ?_; rintro e w1 ⟨rfl, hb1⟩)
      go_ret
      exact ⟨rfl, hb1⟩
    · have hc2 : (l.length : Int) < cut := by omega
      go_enter Try.func3, Try.ntmps3
      go_wp2_with (go_at_call 12; refine (known02_any _).mono ?_; rintro e w1 ⟨rfl, hb1⟩)
      go_ret
      exact ⟨rfl, hb1⟩

set_option maxRecDepth 100000 in
set_option maxHeartbeats 1000000 in
theorem checkOf_main (v : Value) (l : List UInt8) (cut : Nat) (w : World) (hB : Bts w v l) (hl : l.length ≤ 300) (hc : cut ≤ l.length) :
    Calls Try.prog 3 #[v, .int .i64 (cut : Int)] w fun e w' => e = .returned (.bool true) ∧ Below w.heap.size w w' := by
  obtain ⟨ao, cap, rfl, h1, h2, h3⟩ := hB.form
  unfold maxLen at h2
  obtain ⟨V1, hV1, hB1⟩ := cut_h (P := Try.prog) Try.underlying22 Try.size5 ao l.length cap cut (by omega)
  obtain ⟨V2, hV2, hB2⟩ := cut_l (P := Try.prog) Try.underlying22 Try.size5 ao l.length cap cut hc
  have HB1 := Lib.hid hB1
  have HB2 := Lib.hid hB2
  have hl1 : ¬ (300 : Int) < (l.length : Int) := by omega
  have hl2 : ¬ (cut : Int) < 0 := by omega
  have hl3 : ¬ (l.length : Int) < (cut : Int) := by omega
  have HS := Lib.hid (on_split l cut)
  clear hB1 hB2
  go_enter Try.func3, Try.ntmps3
  go_wp2_with (first
    | (go_at_call 12; refine (known02_any _).mono ?_; rintro e w1 ⟨rfl, hb1⟩)
    | (go_at_call 13; refine (refOf_any _ l _ (hB.keep hb1) (by omega)).mono ?_; rintro e w2 ⟨rfl, hb2⟩))
  have hb02 : Below w.heap.size w w2 := hb1.trans (hb2.mono hb1.size)
  go_region_held3 (fun w' => Below w.heap.size w w') (first | assumption | exact hb02.drew) (first
    | (go_at_call_of 14 (Value.slice ao l.length cap); refine (of_any _ l _ (hB.keep (by assumption))).mono ?_; rintro e w3 ⟨rfl, hb3⟩; have hb03 := Below.call (w := w) (by assumption) hb3)
    | (go_at_call_of 14 V1; refine (of_any V1 (l.take cut) _ (Bts.take (HB1.out _ _ (hB.keep (by assumption)) (by simpa using hc)))).mono ?_; rintro e w4 ⟨rfl, hb4⟩; have hb04 := Below.call (w := w) (by assumption) hb4)
    | (go_at_call 15; refine (on_any _ V2 (l.drop cut) _ (Bts.drop (HB2.out _ _ (hB.keep (by assumption)) (by simp)))).mono ?_; rintro e w5 ⟨rfl, hb5⟩; rw [HS.out]; have hb05 := Below.call (w := w) (by assumption) hb5)
    | (go_at_call 16; refine (masked_any _ l _ (hB.keep (by assumption))).mono ?_; rintro e w6 ⟨rfl, hb6⟩; have hb06 := Below.call (w := w) (by assumption) hb6)
    | (go_at_call 17; refine (refMasked_any _ l _ (hB.keep (by assumption)) (by omega)).mono ?_; rintro e w7 ⟨rfl, hb7⟩; have hb07 := Below.call (w := w) (by assumption) hb7))
  all_goals go_wp2_with fail
  all_goals go_ret
  all_goals exact ⟨rfl, by assumption⟩

/-- any input -/
theorem checkOf_all (v : Value) (l : List UInt8) (cut : Int) (w : World) (hB : Bts w v l) :
    Calls Try.prog 3 #[v, .int .i64 cut] w fun e w' => e = .returned (.bool true) ∧ Below w.heap.size w w' := by
  by_cases h : 300 < l.length ∨ cut < 0 ∨ (l.length : Int) < cut
  · exact checkOf_small v l cut w hB h
  · have h0 : 0 ≤ cut := by omega
    obtain ⟨c, rfl⟩ := Int.eq_ofNat_of_zero_le h0
    exact checkOf_main v l c w hB (by omega) (by omega)
end Go.Proofs.Ytlcnjinabfbglaa
