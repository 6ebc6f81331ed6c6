/- FramePuts: the walk. -/
import Derived.Test.YtlcnjinabfbglaaQ11
namespace Go.Proofs.Ytlcnjinabfbglaa
open Go.RowKit
set_option maxRecDepth 100000 in
set_option maxHeartbeats 2000000 in
theorem framePuts_any (v : Value) (b : List UInt8) (w : World) (hB : Bts w v b) : Calls Try.prog 7 #[v] w fun e w' => e = .returned (.bool true) ∧ Below w.heap.size w w' := by
  obtain ⟨ao, cap, rfl, h1, h2, h3⟩ := hB.form
  unfold maxLen at h2
  by_cases hA : 300 < b.length ∧ b.length < 4090
  · have g1 : (300 : Int) < (b.length : Int) := by omega
    have g2 : (b.length : Int) < 4090 := by omega
    go_enter Try.func7, Try.ntmps7
    go_wp2_with (go_at_call 29; refine (known03_any _).mono ?_; rintro e w1 ⟨rfl, hb1⟩)
    go_ret
    exact ⟨rfl, hb1⟩
  by_cases hC : 5000 < b.length
  · have g1 : (300 : Int) < (b.length : Int) := by omega
    have g2 : ¬ (b.length : Int) < 4090 := by omega
    have g3 : (5000 : Int) < (b.length : Int) := by omega
    go_enter Try.func7, Try.ntmps7
    go_wp2_with (go_at_call 29; refine (known03_any _).mono ?_; rintro e w1 ⟨rfl, hb1⟩)
    go_ret
    exact ⟨rfl, hb1⟩
  have g3 : ¬ (5000 : Int) < (b.length : Int) := by omega
  by_cases hS : b.length ≤ 4096
  · have h30 := fun w hB => putF_le (.slice ao b.length cap) b w hB hS
    have h31 := fun w hB => refPutF_le (.slice ao b.length cap) b w hB hS
    generalize Fr.frame Fr.ck4 b = f at h30 h31
    by_cases h300 : 300 < b.length
    · have g1 : (300 : Int) < (b.length : Int) := by omega
      have g2 : ¬ (b.length : Int) < 4090 := by omega
      go_enter Try.func7, Try.ntmps7
      go_wp2_with (first
        | (go_at_call 29; refine (known03_any _).mono ?_; rintro e w1 ⟨rfl, hb1⟩)
        | (go_at_call 30; refine (h30 _ (hB.keep hb1)).mono ?_; rintro e w2 ⟨v2, rfl, hb2, ho2⟩; obtain ⟨ao2, ac2, rfl, -, -⟩ := own_form ho2; have hb02 := Below.call hb1 hb2)
        | (go_at_call 31; refine (h31 _ (hB.keep hb02)).mono ?_; rintro e w3 ⟨v3, rfl, hb3, ho3⟩; obtain ⟨ao3, ac3, rfl, -, -⟩ := own_form ho3; have hb03 := Below.call hb02 hb3; have k2 := conv_str (ho2.bts.keep hb3); have k3 := conv_str ho3.bts))
      go_ret
      exact ⟨rfl, hb03⟩
    · have g1 : ¬ (300 : Int) < (b.length : Int) := by omega
      go_enter Try.func7, Try.ntmps7
      go_wp2_with (first
        | (go_at_call 29; refine (known03_any _).mono ?_; rintro e w1 ⟨rfl, hb1⟩)
        | (go_at_call 30; refine (h30 _ (hB.keep hb1)).mono ?_; rintro e w2 ⟨v2, rfl, hb2, ho2⟩; obtain ⟨ao2, ac2, rfl, -, -⟩ := own_form ho2; have hb02 := Below.call hb1 hb2)
        | (go_at_call 31; refine (h31 _ (hB.keep hb02)).mono ?_; rintro e w3 ⟨v3, rfl, hb3, ho3⟩; obtain ⟨ao3, ac3, rfl, -, -⟩ := own_form ho3; have hb03 := Below.call hb02 hb3; have k2 := conv_str (ho2.bts.keep hb3); have k3 := conv_str ho3.bts))
      go_ret
      exact ⟨rfl, hb03⟩
  · have g1 : (300 : Int) < (b.length : Int) := by omega
    have g2 : ¬ (b.length : Int) < 4090 := by omega
    have h30 := fun w hB => putF_gt (.slice ao b.length cap) b w hB (by omega) (by omega)
    have h31 := fun w hB => refPutF_gt (.slice ao b.length cap) b w hB (by omega) (by omega)
    have k0 := fun w => conv_str (l := []) (Sli.nil w)
    go_enter Try.func7, Try.ntmps7
    go_wp2_with (first
      | (go_at_call 29; refine (known03_any _).mono ?_; rintro e w1 ⟨rfl, hb1⟩)
      | (go_at_call 30; refine (h30 _ (hB.keep hb1)).mono ?_; rintro e w2 ⟨rfl, hb2⟩; have hb02 := Below.call hb1 hb2)
      | (go_at_call 31; refine (h31 _ (hB.keep hb02)).mono ?_; rintro e w3 ⟨rfl, hb3⟩; have hb03 := Below.call hb02 hb3))
    go_ret
    exact ⟨rfl, hb03⟩
end Go.Proofs.Ytlcnjinabfbglaa
