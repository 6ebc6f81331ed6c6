/- Plain: what is taken was put so: the bytes of a number, or text, are told by what they are. -/
import Derived.Test.YtlcnjinabfbglaaPk2
namespace Go.Proofs.Ytlcnjinabfbglaa.Pk
theorem tk_canon : ∀ (f : Nat) (l : List UInt8) (i n v j : Nat), f + i = 9 → tkF l i n = some (v, j) →
    ∃ m, v = n + m * 2 ^ (7 * i) ∧ l.take (j - i) = putF (f + 1) m ∧ (0 < i → 0 < m) ∧ m < 2 ^ (64 - 7 * i)
  | f, [], i, n, v, j, hf, h => by simp [tkF] at h
  | f, x :: r, i, n, v, j, hf, h => by
    rw [tkF] at h
    have hx : x.toNat < 256 := x.toNat_lt
    split at h
    · cases h
    · rename_i hb
      split at h
      · rename_i h1
        simp only [Option.some.injEq, Prod.mk.injEq] at h
        obtain ⟨rfl, rfl⟩ := h
        refine ⟨x.toNat, by rw [Nat.mod_eq_of_lt h1], ?_, by omega, ?_⟩
        · rw [putF_small f _ h1, show i + 1 - i = 1 by omega]
          simp
        · by_cases h9 : i = 9
          · subst h9
            have : x.toNat < 2 := by omega
            simpa using this
          · have h8 : 8 ≤ 64 - 7 * i := by omega
            have := Nat.pow_le_pow_right (n := 2) (by omega) h8
            omega
      · rename_i h1
        match f, hf with
        | 0, hf => omega
        | f + 1, hf =>
          obtain ⟨m, e1, e2, e3, e4⟩ := tk_canon f r (i + 1) _ v j (by omega) h
          have hm := e3 (by omega)
          have hp := tk_pos r _ _ _ _ h
          have q1 : (x.toNat % 128 + 128 * m) % 128 = x.toNat % 128 := by omega
          have q2 : (x.toNat % 128 + 128 * m) / 128 = m := by omega
          refine ⟨x.toNat % 128 + 128 * m, ?_, ?_, by omega, ?_⟩
          · rw [e1, show 7 * (i + 1) = 7 * i + 7 by omega, Nat.pow_add, Nat.add_mul, Nat.add_assoc]
            congr 2
            rw [Nat.mul_comm (2 ^ (7 * i)) (2 ^ 7), ← Nat.mul_assoc]
            congr 1
            omega
          · rw [putF_big _ _ (by omega), q1, q2, ← e2, show j - i = (j - (i + 1)) + 1 by omega, List.take_succ_cons]
            congr 1
            apply UInt8.toNat_inj.1
            rw [UInt8.toNat_ofNat']
            omega
          · rw [show 64 - 7 * i = (64 - 7 * (i + 1)) + 7 by omega, Nat.pow_add]
            omega
theorem take_canon (l : List UInt8) (at_ v j : Nat) (h : take l at_ = some (v, j)) : (l.drop at_).take (j - at_) = put v ∧ v < 18446744073709551616 ∧ at_ < j := by
  unfold take at h
  obtain ⟨⟨v', j'⟩, h1, h2⟩ := Option.map_eq_some_iff.1 h
  simp only [Prod.mk.injEq] at h2
  obtain ⟨rfl, rfl⟩ := h2
  obtain ⟨m, e1, e2, -, e4⟩ := tk_canon 9 _ 0 0 _ _ rfl h1
  have := tk_pos _ _ _ _ _ h1
  have e5 : v' = m := by simpa using e1
  subst e5
  refine ⟨?_, by simpa using e4, by omega⟩
  rw [show at_ + j' - at_ = j' - 0 by omega]
  exact e2
theorem takeText_canon (l : List UInt8) (at_ j : Nat) (s : List UInt8) (h : takeText l at_ = some (s, j)) : (l.drop at_).take (j - at_) = putText s ∧ s.length ≤ 4096 ∧ at_ < j ∧ (at_ ≤ l.length → j ≤ l.length) := by
  unfold takeText at h
  cases ht : take l at_ with
  | none => rw [ht] at h; cases h
  | some p =>
    obtain ⟨n, k⟩ := p
    rw [ht] at h
    simp only at h
    split at h
    · cases h
    · rename_i hb
      simp only [Option.some.injEq, Prod.mk.injEq] at h
      obtain ⟨rfl, rfl⟩ := h
      obtain ⟨e1, -, e3⟩ := take_canon l at_ n k ht
      have hlen : ((l.drop k).take n).length = n := by rw [List.length_take, List.length_drop]; omega
      refine ⟨?_, by rw [hlen]; omega, by omega, ?_⟩
      · unfold putText
        rw [hlen, ← e1, show k + n - at_ = (k - at_) + n by omega, List.take_add, List.drop_drop, show at_ + (k - at_) = k by omega]
      · intro ha
        have := (take_le l at_ n k ht ha).2
        omega
end Go.Proofs.Ytlcnjinabfbglaa.Pk
