/- Whether peers may be. -/
import Derived.Test.YtlcnjinabfbglaaRm
namespace Go.Proofs.Ytlcnjinabfbglaa
open Go.RowKit
theorem drop_at (l : List Nat) (k : Nat) (h : k < l.length) : l.drop k = l.getD k 0 :: l.drop (k + 1) := by
  rw [List.drop_eq_getElem_cons h]; simp [h]
set_option maxRecDepth 100000 in
set_option maxHeartbeats 2000000 in
theorem peersMay_any (v : Value) (l : List Nat) (w : World) (hL : Nums w v l) : Calls Try.prog 66 #[v] w fun e w' => e = .returned (.bool (Rp.mayP l)) ∧ Below w.heap.size w w' := by
  obtain ⟨ao, cap, rfl, h1, h2, h3⟩ := hL.form
  unfold maxLen at h2
  obtain ⟨R, hR⟩ : ∃ R, R = Rp.mayP l := ⟨_, rfl⟩
  rw [← hR]
  have HR := Lib.hid hR
  clear hR
  go_enter Try.func66, Try.ntmps66
  go_wp2_with fail
  go_loopw [3, 8] (fun q i wr => ∃ k last : Nat, k ≤ l.length ∧ i = .int .i64 k ∧ q = u64 last ∧ last < 18446744073709551616 ∧ Below w.heap.size w wr ∧ RowKit.Hid (Rp.rises 0 l = Rp.rises last (l.drop k))) (fun _ i _ => l.length - (intOf i).toNat)
  case atStart => exact ⟨0, 0, Nat.zero_le _, rfl, rfl, by omega, Below.refl _ _, show _ = _ from rfl⟩
  case round =>
    obtain ⟨k, last, hk, rfl, rfl, hl64, hbel, HI⟩ := hrel
    by_cases hlt : k < l.length
    · have hlt' : (k : Int) < (l.length : Int) := by omega
      obtain ⟨b, off, rfl, hbl, hc⟩ := Nums.at (hL.keep hbel) (by omega)
      have hck := hc k hlt
      have hx64 := hL.lt hlt
      have hi := HI.out
      rw [drop_at l k hlt] at hi
      generalize l.getD k 0 = x at *
      have hi2 : Rp.rises 0 l = (decide (last < x) && Rp.rises x (l.drop (k + 1))) := hi
      have HI2 := Lib.hid hi2
      clear hi hi2 hc HI
      by_cases hxl : x ≤ last
      · have hxl' : (x : Int) ≤ (last : Int) := by omega
        have hR0 : R = false := by
          rw [HR.out, Rp.mayP, HI2.out, decide_eq_false (by omega)]; rfl
        subst hR0
        go_wp2_with fail
        go_ret
        exact ⟨rfl, hbel⟩
      · have hxl' : ¬ (x : Int) ≤ (last : Int) := by omega
        have hI3 : Rp.rises 0 l = Rp.rises x (l.drop (k + 1)) := by rw [HI2.out, decide_eq_true (by omega)]; rfl
        have HI3 := Lib.hid hI3
        clear hI3 HI2
        go_wp2_with fail
        exact ⟨⟨k + 1, x, by omega, by go_num, rfl, hx64, hbel, HI3⟩, by simp [intOf]; omega⟩
    · obtain rfl : k = l.length := by omega
      have hri : Rp.rises 0 l = true := by rw [HI.out, List.drop_length]; rfl
      have hRl : R = (decide (1 ≤ l.length) && decide (l.length ≤ 7)) := by rw [HR.out, Rp.mayP, hri]; rfl
      by_cases c1 : 1 ≤ l.length
      · have c1' : (1 : Int) ≤ (l.length : Int) := by omega
        rw [decide_eq_true c1, Bool.true_and] at hRl
        have HRl := Lib.hid hRl
        clear hRl c1 hri HI
        go_wp2_with fail
        go_ret
        refine ⟨ret_bool ?_, hbel⟩
        rw [HRl.out]
        by_cases c2 : l.length ≤ 7
        · rw [decide_eq_true c2]; simp; omega
        · rw [decide_eq_false c2]; simp; omega
      · have c1' : ¬ (1 : Int) ≤ (l.length : Int) := by omega
        rw [decide_eq_false c1, Bool.false_and] at hRl
        subst hRl
        go_wp2_with fail
        go_ret
        exact ⟨rfl, hbel⟩
set_option maxRecDepth 100000 in
set_option maxHeartbeats 2000000 in
theorem refPeersMay_any (v : Value) (l : List Nat) (w : World) (hL : Nums w v l) : Calls Try.prog 69 #[v] w fun e w' => e = .returned (.bool (Rp.mayP l)) ∧ Below w.heap.size w w' := by
  obtain ⟨ao, cap, rfl, h1, h2, h3⟩ := hL.form
  unfold maxLen at h2
  obtain ⟨R, hR⟩ : ∃ R, R = Rp.mayP l := ⟨_, rfl⟩
  rw [← hR]
  have HR := Lib.hid hR
  clear hR
  by_cases h0 : l.length = 0
  · have h0' : ((l.length : Int) == 0) = true := by rw [beq_iff_eq]; omega
    have hR0 : R = false := by
      obtain rfl := List.eq_nil_of_length_eq_zero h0
      rw [HR.out]; rfl
    subst hR0
    clear h0
    go_enter Try.func69, Try.ntmps69
    go_wp2_with fail
    go_ret
    exact ⟨rfl, Below.refl _ _⟩
  have h0' : ((l.length : Int) == 0) = false := by rw [beq_eq_false_iff_ne]; omega
  by_cases h7 : 7 < l.length
  · have h7' : (7 : Int) < (l.length : Int) := by omega
    have hR0 : R = false := by
      rw [HR.out, Rp.mayP, decide_eq_false (show ¬ l.length ≤ 7 by omega), Bool.and_false]
    subst hR0
    go_enter Try.func69, Try.ntmps69
    go_wp2_with fail
    go_ret
    exact ⟨rfl, Below.refl _ _⟩
  have h7' : ¬ (7 : Int) < (l.length : Int) := by omega
  have hRl : R = Rp.rises 0 l := by
    rw [HR.out, Rp.mayP, decide_eq_true (show 1 ≤ l.length by omega), decide_eq_true (show l.length ≤ 7 by omega), Bool.and_true, Bool.and_true]
  clear HR
  obtain ⟨b, off, rfl, hbl, hc⟩ := Nums.at hL (by omega)
  have hc0 := hc 0 (by omega)
  rw [Nat.add_zero] at hc0
  have hx0 := hL.lt (show 0 < l.length by omega)
  have hd0 := drop_at l 0 (by omega)
  rw [List.drop_zero] at hd0
  have hrs : Rp.rises 0 l = (decide (0 < l.getD 0 0) && Rp.rises (l.getD 0 0) (l.drop 1)) := by rw [hd0]; rfl
  have HX := Lib.hid hc
  clear hc hd0
  by_cases hz : l.getD 0 0 = 0
  · have hR0 : R = false := by rw [hRl, hrs, hz]; rfl
    subst hR0
    rw [hz] at hc0
    clear hrs hRl hz hx0
    go_enter Try.func69, Try.ntmps69
    go_wp2_with fail
    go_ret
    exact ⟨rfl, Below.refl _ _⟩
  have hz' : (((l.getD 0 0 : Nat) : Int) == 0) = false := by rw [beq_eq_false_iff_ne]; omega
  have hI0 : Rp.rises 0 l = Rp.rises (l.getD 0 0) (l.drop 1) := by rw [hrs, decide_eq_true (by omega)]; rfl
  have HI0 := Lib.hid hI0
  have HRl := Lib.hid hRl
  clear hrs hRl hz hI0
  generalize hg : l.getD 0 0 = x0 at *
  go_enter Try.func69, Try.ntmps69
  go_wp2_with fail
  go_loopw [3] (fun i wr => ∃ k : Nat, 1 ≤ k ∧ k ≤ l.length ∧ i = .int .i64 k ∧ Below w.heap.size w wr ∧ RowKit.Hid (Rp.rises 0 l = Rp.rises (l.getD (k - 1) 0) (l.drop k))) (fun i _ => l.length - (intOf i).toNat)
  case atStart => exact ⟨1, Nat.le_refl _, by omega, rfl, Below.refl _ _, show _ = _ from by rw [HI0.out, hg]⟩
  case round =>
    clear HI0 hc0 hz' hx0
    obtain ⟨k, hk1, hk, rfl, hbel, HI⟩ := hrel
    by_cases hlt : k < l.length
    · have hlt' : (k : Int) < (l.length : Int) := by omega
      have hK := hL.keep hbel
      obtain ⟨b', off', he, -, hc⟩ := Nums.at hK (by omega)
      obtain ⟨rfl, rfl⟩ : b = b' ∧ off = off' := by simpa using he
      have hck := hc k hlt
      have hcp := hc (k - 1) (by omega)
      have hk1' : (0 : Int) ≤ (k : Int) - 1 := by omega
      have hk2' : (k : Int) - 1 < (l.length : Int) := by omega
      have hkI : ((k : Int) - 1).toNat = k - 1 := by omega
      have hkw : IntKind.i64.wrap ((k : Int) - 1) = (k : Int) - 1 := IntWalk.i64_in _ (by omega)
      have hx64 := hL.lt hlt
      have hy64 := hL.lt (show k - 1 < l.length by omega)
      have hi := HI.out
      rw [drop_at l k hlt] at hi
      have hpred : l.getD ((k + 1) - 1) 0 = l.getD k 0 := rfl
      generalize hgx : l.getD k 0 = x at *
      generalize l.getD (k - 1) 0 = y at *
      have hi2 : Rp.rises 0 l = (decide (y < x) && Rp.rises x (l.drop (k + 1))) := hi
      have HI2 := Lib.hid hi2
      have HP := Lib.hid hpred
      clear hi hi2 hc HI he hpred hgx hg
      by_cases hxl : x ≤ y
      · have hxl' : (x : Int) ≤ (y : Int) := by omega
        have hR0 : R = false := by
          rw [HRl.out, HI2.out, decide_eq_false (by omega)]; rfl
        subst hR0
        go_wp2_with fail
        go_region
        all_goals go_wp2_with fail
        all_goals go_ret
        all_goals exact ⟨rfl, hbel.drew⟩
      · have hxl' : ¬ (x : Int) ≤ (y : Int) := by omega
        have hI3 : Rp.rises 0 l = Rp.rises (l.getD (k + 1 - 1) 0) (l.drop (k + 1)) := by rw [HI2.out, decide_eq_true (by omega), HP.out]; rfl
        have HI3 := Lib.hid hI3
        clear hI3 HI2 HP
        go_wp2_with fail
        go_region
        all_goals go_wp2_with fail
        all_goals exact ⟨⟨k + 1, by omega, by omega, by go_num, hbel.drew, HI3⟩, by simp [intOf]; omega⟩
    · obtain rfl : k = l.length := by omega
      have hR1 : R = true := by rw [HRl.out, HI.out, List.drop_length]; rfl
      subst hR1
      go_wp2_with fail
      go_ret
      exact ⟨rfl, hbel⟩
end Go.Proofs.Ytlcnjinabfbglaa
