/- Frame: slices.Equal over bytes; the reference's Take. -/
import Derived.Test.YtlcnjinabfbglaaQ0
namespace Go.Proofs.Ytlcnjinabfbglaa
open Go.RowKit
theorem eqInt (x y : UInt8) : (((x.toNat : Int) == (y.toNat : Int)) = true) ↔ x = y := by
  rw [beq_iff_eq]
  constructor
  · intro h; exact UInt8.toNat_inj.1 (by omega)
  · rintro rfl; rfl
theorem beq_upto (a b : List UInt8) (h : a.length = b.length) (he : ∀ j, j < a.length → a.getD j 0 = b.getD j 0) : a = b := by
  apply List.ext_getElem h
  intro i h1 h2
  have := he i h1
  simpa [h1, h2] using this
set_option maxRecDepth 100000 in
set_option maxHeartbeats 2000000 in
theorem equalB_any (va vb : Value) (a b : List UInt8) (w : World) (hA : Bts w va a) (hB : Bts w vb b) :
    Calls Try.prog 53 #[va, vb] w fun e w' => e = .returned (.bool (a == b)) ∧ Below w.heap.size w w' := by
  obtain ⟨ao, ca, rfl, a1, a2, a3⟩ := hA.form
  obtain ⟨bo, cb, rfl, b1, b2, b3⟩ := hB.form
  unfold maxLen at a2 b2
  by_cases hl : a.length = b.length
  · have h1 : ((a.length : Int) == (b.length : Int)) = true := by simp; omega
    have HL := Lib.hid hl
    clear hl
    go_enter Try.func53, Try.ntmps53
    go_wp2_with fail
    go_loopw [13] (fun i wr => ∃ k : Nat, k ≤ a.length ∧ i = .int .i64 k ∧ Below w.heap.size w wr ∧ ∀ j, j < k → a.getD j 0 = b.getD j 0) (fun i _ => a.length - (intOf i).toNat)
    case atStart => exact ⟨0, Nat.zero_le _, rfl, Below.refl _ _, by omega⟩
    case round =>
      obtain ⟨k, hk, rfl, hbel, hsame⟩ := hrel
      by_cases hlt : k < a.length
      · have hlt' : (k : Int) < (a.length : Int) := by omega
        have hltb' : (k : Int) < (b.length : Int) := by have := HL.out; omega
        obtain ⟨ba, offa, rfl, hbla, hca⟩ := Bts.at (hA.keep hbel) (by omega)
        obtain ⟨bb, offb, rfl, hblb, hcb⟩ := Bts.at (hB.keep hbel) (by have := HL.out; omega)
        have hcak := hca k hlt
        have hcbk := hcb k (by omega)
        obtain ⟨x, hx⟩ : ∃ x, x = a.getD k 0 := ⟨_, rfl⟩
        obtain ⟨y, hy⟩ : ∃ y, y = b.getD k 0 := ⟨_, rfl⟩
        rw [← hx] at hcak
        rw [← hy] at hcbk
        have HX := Lib.hid hx
        have HY := Lib.hid hy
        have HS := Lib.hid hsame
        clear hca hcb hx hy hsame
        by_cases hxy : x = y
        · subst hxy
          go_wp2_with fail
          go_region
          all_goals go_wp2_with fail
          all_goals exact ⟨⟨k + 1, by omega, by go_num, hbel.drew, fun j hj => by
            by_cases hjk : j = k
            · subst hjk; rw [← HX.out, ← HY.out]
            · exact HS.out j (by omega)⟩, by simp [intOf]; omega⟩
        · have hne : ((x.toNat : Int) == (y.toNat : Int)) = false := by rw [← Bool.not_eq_true, eqInt]; exact hxy
          have hab : (a == b) = false := by
            rw [beq_eq_false_iff_ne]
            rintro rfl
            exact hxy (HX.out.trans HY.out.symm)
          have HAB := Lib.hid hab
          clear hab hxy
          go_wp2_with fail
          go_region
          all_goals go_wp2_with fail
          all_goals go_ret
          all_goals exact ⟨ret_bool HAB.out.symm, hbel.drew⟩
      · have hkn : k = a.length := by omega
        subst hkn
        have hab : (a == b) = true := by
          rw [beq_iff_eq]
          exact beq_upto a b HL.out hsame
        have HAB := Lib.hid hab
        clear hab hsame
        go_wp2_with fail
        go_ret
        exact ⟨ret_bool HAB.out.symm, hbel⟩
  · have h1 : ((a.length : Int) == (b.length : Int)) = false := by simp; omega
    have hab : (a == b) = false := by
      rw [beq_eq_false_iff_ne]
      rintro rfl
      exact hl rfl
    rw [hab]
    clear hab hl
    go_enter Try.func53, Try.ntmps53
    go_wp2_with fail
    go_ret
    exact ⟨rfl, Below.refl _ _⟩
end Go.Proofs.Ytlcnjinabfbglaa
