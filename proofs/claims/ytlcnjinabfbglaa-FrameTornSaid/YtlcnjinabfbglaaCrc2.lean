/- Plain: bits turned in a row of bytes. -/
import Derived.Test.YtlcnjinabfbglaaCrc
namespace Go.Proofs.Ytlcnjinabfbglaa.Crc
theorem getD_bitsOf : ∀ (l : List UInt8) (j : Nat), (bitsOf l).getD j false = (l.getD (j / 8) 0).toNat.testBit (j % 8) := by
  intro l
  induction l with
  | nil => intro j; simp [bitsOf]
  | cons x l ih =>
    intro j
    show (bits8 x ++ bitsOf l).getD j false = _
    by_cases h : j < 8
    · rw [List.getD_eq_getElem?_getD, List.getElem?_append_left (by rw [length_bits8]; exact h)]
      have h1 : j / 8 = 0 := by omega
      have h2 : j % 8 = j := by omega
      rw [h1, h2]
      simp [bits8, h]
    · rw [List.getD_eq_getElem?_getD, List.getElem?_append_right (by rw [length_bits8]; omega), length_bits8, ← List.getD_eq_getElem?_getD, ih]
      have h1 : j / 8 = (j - 8) / 8 + 1 := by omega
      have h2 : j % 8 = (j - 8) % 8 := by omega
      rw [h1, h2]
      simp
/-- bit number k of a byte turned -/
def turnBit (x : UInt8) (k : Nat) : UInt8 := UInt8.ofNat (x.toNat ^^^ 2 ^ k)
theorem turnBit_nat (x : UInt8) (k : Nat) (h : k < 8) : (turnBit x k).toNat = x.toNat ^^^ 2 ^ k := by
  unfold turnBit
  have h1 : x.toNat ^^^ 2 ^ k < 2 ^ 8 := Nat.xor_lt_two_pow x.toNat_lt (Nat.pow_lt_pow_right (by omega) h)
  rw [UInt8.toNat_ofNat']
  exact Nat.mod_eq_of_lt h1
/-- the first i bits of a mask turned, from at_ on -/
def tb (l : List UInt8) (at_ : Nat) (mask : BitVec 32) : Nat → List UInt8
  | 0 => l
  | i + 1 => if mask.getLsbD i then (tb l at_ mask i).set ((at_ + i) / 8) (turnBit ((tb l at_ mask i).getD ((at_ + i) / 8) 0) ((at_ + i) % 8)) else tb l at_ mask i
theorem tb_len (l : List UInt8) (at_ : Nat) (mask : BitVec 32) (i : Nat) : (tb l at_ mask i).length = l.length := by
  induction i with
  | zero => rfl
  | succ i ih => unfold tb; split <;> simp [ih]
theorem tb_bits (l : List UInt8) (at_ : Nat) (mask : BitVec 32) (i : Nat) (h : at_ + i ≤ 8 * l.length) (j : Nat) :
    (bitsOf (tb l at_ mask i)).getD j false = ((bitsOf l).getD j false ^^ (decide (at_ ≤ j) && (decide (j < at_ + i) && mask.getLsbD (j - at_)))) := by
  induction i with
  | zero =>
    have : (decide (at_ ≤ j) && (decide (j < at_ + 0) && mask.getLsbD (j - at_))) = false := by
      by_cases h1 : at_ ≤ j
      · have : ¬ j < at_ := by omega
        simp [this]
      · simp [h1]
    rw [this]; simp [tb]
  | succ i ih =>
    have ih := ih (by omega)
    unfold tb
    by_cases hm : mask.getLsbD i = true
    · rw [if_pos hm, getD_bitsOf]
      rw [getD_bitsOf] at ih
      have hlt : (at_ + i) / 8 < (tb l at_ mask i).length := by rw [tb_len]; omega
      by_cases hq : j / 8 = (at_ + i) / 8
      · have hs : ((tb l at_ mask i).set ((at_ + i) / 8) (turnBit ((tb l at_ mask i).getD ((at_ + i) / 8) 0) ((at_ + i) % 8))).getD (j / 8) 0 = turnBit ((tb l at_ mask i).getD (j / 8) 0) ((at_ + i) % 8) := by
          rw [hq]; simp only [List.getD_eq_getElem?_getD]
          rw [List.getElem?_set_self hlt]; rfl
        rw [hs, turnBit_nat _ _ (by omega), Nat.testBit_xor, ih, Nat.testBit_two_pow]
        by_cases hj : j = at_ + i
        · subst hj
          have e1 : decide ((at_ + i) % 8 = (at_ + i) % 8) = true := by simp
          rw [show at_ + i - at_ = i from by omega, hm]
          simp
        · have e1 : decide ((at_ + i) % 8 = j % 8) = false := by rw [decide_eq_false_iff_not]; omega
          have e2 : decide (j < at_ + (i + 1)) = decide (j < at_ + i) := by rw [decide_eq_decide]; omega
          rw [e1, e2]; simp
      · have hs : ((tb l at_ mask i).set ((at_ + i) / 8) (turnBit ((tb l at_ mask i).getD ((at_ + i) / 8) 0) ((at_ + i) % 8))).getD (j / 8) 0 = (tb l at_ mask i).getD (j / 8) 0 := by
          simp only [List.getD_eq_getElem?_getD]
          rw [List.getElem?_set_ne (by omega)]
        rw [hs, ih]
        have e2 : decide (j < at_ + (i + 1)) = decide (j < at_ + i) := by
          rw [decide_eq_decide]
          have : j ≠ at_ + i := by rintro rfl; exact hq rfl
          omega
        rw [e2]
    · rw [if_neg hm, ih]
      congr 2
      by_cases hj : j = at_ + i
      · subst hj
        rw [show at_ + i - at_ = i from by omega]
        simp at hm
        simp [hm]
      · have e2 : decide (j < at_ + (i + 1)) = decide (j < at_ + i) := by rw [decide_eq_decide]; omega
        rw [e2]
/-- THE STAGE's THEOREM: with bits turned within 32 the check is another one, but if none is turned. -/
theorem tells (l : List UInt8) (at_ : Nat) (mask : BitVec 32) (h : at_ + 32 ≤ 8 * l.length) : on 0#32 l = on 0#32 (tb l at_ mask 32) ↔ mask = 0#32 := by
  refine burst l (tb l at_ mask 32) at_ mask (tb_len _ _ _ _).symm h fun j hj => ?_
  rw [tb_bits l at_ mask 32 h j]
  congr 2
  by_cases h1 : j < at_ + 32
  · simp [h1]
  · rw [BitVec.getLsbD_of_ge mask (j - at_) (by omega)]; simp
end Go.Proofs.Ytlcnjinabfbglaa.Crc
