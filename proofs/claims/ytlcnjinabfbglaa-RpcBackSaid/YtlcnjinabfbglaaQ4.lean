/- The reference's TakeText; frame.First and the reference's First. -/
import Derived.Test.YtlcnjinabfbglaaQ3
import Derived.Test.YtlcnjinabfbglaaQ1
namespace Go.Proofs.Ytlcnjinabfbglaa
open Go.RowKit
set_option maxRecDepth 100000 in
theorem refTakeText_any (v : Value) (l : List UInt8) (at_ : Nat) (w : World) (hB : Bts w v l) (hat : at_ ≤ l.length) (hl : l.length ≤ 140737488351232) :
    Calls Try.prog 54 #[v, .int .i64 (at_ : Int)] w fun e w' => e = .returned (takeTV (Pk.takeText l at_)) ∧ Below w.heap.size w w' := by
  have hT := refTake_any v l at_ w hB hat hl
  unfold Pk.takeText
  cases ht : Pk.take l at_ with
  | none =>
    rw [ht] at hT
    go_enter Try.func54, Try.ntmps54
    go_wp2_with (go_at_call 78; refine hT.mono ?_; rintro e w1 ⟨rfl, hb1⟩; unfold takeV)
    go_ret3
    exact ⟨rfl, hb1⟩
  | some p =>
    obtain ⟨n, j⟩ := p
    have hn := Pk.take_lt l at_ n j ht
    rw [ht] at hT
    have hj := Pk.take_le l at_ n j ht hat
    have hT' : takeV (some (n, j)) = .tuple #[.int .u64 (n : Int), .int .i64 (j : Int), .int .i64 0] := rfl
    rw [hT'] at hT
    simp only []
    obtain ⟨ao, cap, rfl, c1, c2, c3⟩ := hB.form
    unfold maxLen at c2
    clear hT' ht
    by_cases h1 : 4096 < n
    · have h1' : (4096 : Int) < (n : Int) := by omega
      rw [if_pos (.inl h1)]
      go_enter Try.func54, Try.ntmps54
      go_wp2_with (go_at_call 78; refine hT.mono ?_; rintro e w1 ⟨rfl, hb1⟩)
      go_ret3
      exact ⟨rfl, hb1⟩
    · have h1' : ¬ (4096 : Int) < (n : Int) := by omega
      have h3 : (l.length : Int) - (j : Int) < 18446744073709551616 := by omega
      have h4 : (0 : Int) ≤ (l.length : Int) - (j : Int) := by omega
      by_cases h2 : l.length - j < n
      · have h2' : (l.length : Int) - (j : Int) < (n : Int) := by omega
        rw [if_pos (.inr h2)]
        go_enter Try.func54, Try.ntmps54
        go_wp2_with (go_at_call 78; refine hT.mono ?_; rintro e w1 ⟨rfl, hb1⟩)
        go_ret3
        exact ⟨rfl, hb1⟩
      · have h2' : ¬ (l.length : Int) - (j : Int) < (n : Int) := by omega
        rw [if_neg (by omega)]
        obtain ⟨V, hV, hBV⟩ := cut_lh (P := Try.prog) Try.underlying22 Try.size5 ao l.length cap j (j + n) (by omega) (by omega)
        have hCV : ∀ w', Below w.heap.size w w' → (convert 22 9 V).run Try.prog w' = .ok (.string ⟨((l.drop j).take n).toArray⟩) w' := fun w' hw' => by
          have h := Bts.mid (hBV w' _ (hB.keep hw') (by rw [List.length_map]; omega))
          rw [show j + n - j = n from by omega] at h
          exact conv_str h
        simp only [Int.natCast_add] at hV
        have hjn : (j : Int) + (n : Int) ≤ 140737488351232 := by omega
        have hR : takeTV (some (List.take n (List.drop j l), j + n)) = .tuple #[.string ⟨(List.take n (List.drop j l)).toArray⟩, .int .i64 ((j : Int) + (n : Int)), .int .i64 0] := by
          unfold takeTV; simp
        rw [hR]
        clear hBV hR c3
        go_enter Try.func54, Try.ntmps54
        go_wp2_with (go_at_call 78; refine hT.mono ?_; rintro e w1 ⟨rfl, hb1⟩; have hc1 := hCV w1 hb1; clear hCV)
        go_ret3
        exact ⟨rfl, hb1⟩
end Go.Proofs.Ytlcnjinabfbglaa
