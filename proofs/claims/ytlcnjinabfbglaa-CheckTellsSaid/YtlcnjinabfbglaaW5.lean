import Derived.Test.YtlcnjinabfbglaaW4
namespace Go.Proofs.Ytlcnjinabfbglaa
open Go.RowKit

def nine : List UInt8 := [49, 50, 51, 52, 53, 54, 55, 56, 57]
theorem k_none : (U (Crc.on 0#32 []) == 0) = true := by decide +kernel
theorem k_nine : (U (Crc.on 0#32 nine) == 3808858755) = true := by decide +kernel
theorem k_mask : (U (masked (Crc.on 0#32 [])) == 2726488792) = true := by decide +kernel

set_option maxRecDepth 100000 in
theorem known02_any (w : World) : Calls Try.prog 12 #[] w fun e w' => e = .returned (.bool true) ∧ Below w.heap.size w w' := by
  have h1 := k_none
  have kc := fun (w : World) (C : Array Value) (n c : Nat) => Lib.run_convert_bytes_const (P := Try.prog) w 22 5 C n c Try.underlying22 Try.underlying5
  have h2 := k_nine
  have h3 := k_mask
  go_enter Try.func12, Try.ntmps12
  go_wp2_with fail
  refine (of_any _ [] _ (Sli.nil _)).mono ?_; rintro e w1 ⟨rfl, hb1⟩
  go_wp2_with fail
  refine (of_any _ nine _ (Sli.lit _ (nine.map by8) 5 (9, 10) (by decide))).mono ?_; rintro e w2 ⟨rfl, hb2⟩
  go_wp2_with fail
  refine (masked_any _ [] _ (Sli.nil _)).mono ?_; rintro e w3 ⟨rfl, hb3⟩
  go_wp2_with fail
  go_ret
  have hz := hb1.size
  exact ⟨rfl, ((hb1.alloc hz _).trans (hb2.mono (by simp; omega))).trans (hb3.mono (by have := hb2.size; simp at this; omega))⟩
end Go.Proofs.Ytlcnjinabfbglaa
