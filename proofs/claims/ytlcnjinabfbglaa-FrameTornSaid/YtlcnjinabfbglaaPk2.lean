/- Plain: what was put is taken again; what is cut is refused. -/
import Derived.Test.YtlcnjinabfbglaaPk
namespace Go.Proofs.Ytlcnjinabfbglaa.Pk
theorem pow_lt_two (i m : Nat) (h9 : i ≤ 9) (hm : m < 2 ^ (64 - 7 * i)) (hi : i = 9) : m < 2 := by subst hi; simpa using hm
/-- what was put is taken, whatever stands behind -/
theorem tk_put (r : List UInt8) (f : Nat) : ∀ i n m, f + i = 9 → m < 2 ^ (64 - 7 * i) → (0 < i → 0 < m) →
    tkF (putF (f + 1) m ++ r) i n = some (n + m * 2 ^ (7 * i), i + (putF (f + 1) m).length) := by
  induction f with
  | zero =>
    intro i n m hf hm hp
    have hi : i = 9 := by omega
    subst hi
    have hm2 : m < 2 := by simpa using hm
    have hp' := hp (by omega)
    rw [putF_small 0 m (by omega)]
    have hx : (UInt8.ofNat m).toNat = m := by rw [UInt8.toNat_ofNat']; omega
    simp only [List.cons_append, List.nil_append, tkF, hx]
    rw [if_neg (by omega), if_pos (by omega), Nat.mod_eq_of_lt (by omega)]
    simp
  | succ f ih =>
    intro i n m hf hm hp
    by_cases h : m < 128
    · rw [putF_small _ m h]
      have hx : (UInt8.ofNat m).toNat = m := by rw [UInt8.toNat_ofNat']; omega
      simp only [List.cons_append, List.nil_append, tkF, hx]
      rw [if_neg (by omega), if_pos (by omega), Nat.mod_eq_of_lt h]
      simp
    · have hx : (UInt8.ofNat (m % 128 + 128)).toNat = m % 128 + 128 := by rw [UInt8.toNat_ofNat']; omega
      rw [putF_big _ m (by omega), List.cons_append, tkF, hx, if_neg (by omega), if_neg (by omega)]
      have hm2 : m / 128 < 2 ^ (64 - 7 * (i + 1)) := by
        rw [show 64 - 7 * i = (64 - 7 * (i + 1)) + 7 from by omega, Nat.pow_add] at hm
        exact Nat.div_lt_of_lt_mul (by rw [Nat.mul_comm]; exact hm)
      rw [ih (i + 1) _ (m / 128) (by omega) hm2 (by omega), List.length_cons]
      congr 2
      · rw [show 7 * (i + 1) = 7 * i + 7 from by omega, Nat.pow_add]
        have e1 : (m % 128 + 128) % 128 = m % 128 := by omega
        rw [e1]
        have e2 : m / 128 * (2 ^ (7 * i) * 2 ^ 7) = (m / 128 * 128) * 2 ^ (7 * i) := by
          rw [Nat.mul_comm (2 ^ (7 * i)) (2 ^ 7), ← Nat.mul_assoc]
        rw [e2, Nat.add_assoc, ← Nat.add_mul]
        congr 2
        omega
      · omega
theorem tk_pos : ∀ (l : List UInt8) (i n v j : Nat), tkF l i n = some (v, j) → i < j ∧ j ≤ i + l.length := by
  intro l
  induction l with
  | nil => intro i n v j h; simp [tkF] at h
  | cons x r ih =>
    intro i n v j h
    rw [tkF] at h
    split at h
    · cases h
    · split at h
      · simp only [Option.some.injEq, Prod.mk.injEq] at h
        simp; omega
      · have := ih _ _ _ _ h
        simp; omega
/-- cut: the same, or none -/
theorem tk_cut : ∀ (l : List UInt8) (i n v j c : Nat), tkF l i n = some (v, j) → tkF (l.take c) i n = if j ≤ i + c then some (v, j) else none := by
  intro l
  induction l with
  | nil => intro i n v j c h; simp [tkF] at h
  | cons x r ih =>
    intro i n v j c h
    have hp := tk_pos _ _ _ _ _ h
    cases c with
    | zero => rw [List.take_zero, if_neg (by omega)]; rfl
    | succ c =>
      rw [List.take_succ_cons]
      rw [tkF] at h ⊢
      split at h
      · cases h
      · rename_i h1
        rw [if_neg h1]
        split at h
        · rename_i h2
          rw [if_pos h2]
          simp only [Option.some.injEq, Prod.mk.injEq] at h
          rw [if_pos (by omega), h.1, h.2]
        · rename_i h2
          rw [if_neg h2, ih _ _ _ _ c h]
          by_cases hj : j ≤ i + (c + 1)
          · rw [if_pos hj, if_pos (by omega)]
          · rw [if_neg hj, if_neg (by omega)]
theorem take_put (a r : List UInt8) (n : Nat) (hn : n < 18446744073709551616) (at_ : Nat) (ha : at_ = a.length) : take (a ++ put n ++ r) at_ = some (n, at_ + (put n).length) := by
  subst ha
  unfold take put
  rw [List.append_assoc, List.drop_left, tk_put r 9 0 0 n rfl (by simpa using hn) (by omega)]
  simp
theorem take_cut (l : List UInt8) (at_ v j c : Nat) (h : take l at_ = some (v, j)) (hc : at_ ≤ c) : take (l.take c) at_ = if j ≤ c then some (v, j) else none := by
  unfold take at h ⊢
  rw [List.drop_take]
  obtain ⟨⟨v', j'⟩, h1, h2⟩ := Option.map_eq_some_iff.1 h
  simp only [Prod.mk.injEq] at h2
  rw [tk_cut _ _ _ _ _ (c - at_) h1]
  by_cases hj : j ≤ c
  · rw [if_pos (by omega), if_pos hj, Option.map_some, h2.1, h2.2]
  · rw [if_neg (by omega), if_neg hj]; rfl
theorem take_le (l : List UInt8) (at_ v j : Nat) (h : take l at_ = some (v, j)) (hat : at_ ≤ l.length) : at_ < j ∧ j ≤ l.length := by
  unfold take at h
  obtain ⟨⟨v', j'⟩, h1, h2⟩ := Option.map_eq_some_iff.1 h
  simp only [Prod.mk.injEq] at h2
  have := tk_pos _ _ _ _ _ h1
  rw [List.length_drop] at this
  omega
def unzig (x : Nat) : Int := if x % 2 = 0 then (x / 2 : Nat) else -((x / 2 : Nat) : Int) - 1
theorem unzig_zig (m : Int) : unzig (zig m) = m := by
  unfold unzig zig
  split <;> split <;> omega
/-- a text at a place, and the place behind it -/
def takeText (l : List UInt8) (at_ : Nat) : Option (List UInt8 × Nat) :=
  match take l at_ with
  | none => none
  | some (n, j) => if 4096 < n ∨ l.length - j < n then none else some ((l.drop j).take n, j + n)
theorem takeText_put (a r s : List UInt8) (at_ : Nat) (ha : at_ = a.length) (hs : s.length ≤ 4096) : takeText (a ++ putText s ++ r) at_ = some (s, at_ + (putText s).length) := by
  have h := take_put a (s ++ r) s.length (by omega) at_ ha
  have e : a ++ put s.length ++ (s ++ r) = a ++ putText s ++ r := by simp [putText]
  rw [e] at h
  unfold takeText
  rw [h]
  have hl : (a ++ putText s ++ r).length - (at_ + (put s.length).length) = s.length + r.length := by simp [putText]; omega
  have hd : (a ++ putText s ++ r).drop (at_ + (put s.length).length) = s ++ r := by
    rw [← e, show at_ + (put s.length).length = (a ++ put s.length).length from by simp [ha], List.drop_left]
  simp only []
  rw [hl, hd, if_neg (by omega)]
  simp [putText]
  omega
theorem takeText_cut (l : List UInt8) (at_ j c : Nat) (s : List UInt8) (h : takeText l at_ = some (s, j)) (hat : at_ ≤ c) (hc : c ≤ l.length) (hj : c < j) : takeText (l.take c) at_ = none := by
  unfold takeText at h ⊢
  cases ht : take l at_ with
  | none => rw [ht] at h; cases h
  | some p =>
    obtain ⟨n, q⟩ := p
    rw [ht] at h
    rw [take_cut l at_ n q c ht hat]
    simp only [] at h
    split at h
    · cases h
    · simp only [Option.some.injEq, Prod.mk.injEq] at h
      by_cases hq : q ≤ c
      · rw [if_pos hq]
        simp only []
        rw [if_pos]
        right
        rw [List.length_take]
        omega
      · rw [if_neg hq]
theorem take_of_putInt (a r : List UInt8) (m : Int) (h1 : -9223372036854775808 ≤ m) (h2 : m ≤ 9223372036854775807) (at_ : Nat) (ha : at_ = a.length) :
    (take (a ++ put (zig m) ++ r) at_).map (fun p => (unzig p.1, p.2)) = some (m, at_ + (put (zig m)).length) := by
  rw [take_put a r _ (zig_lt m h1 h2) at_ ha, Option.map_some, unzig_zig]
end Go.Proofs.Ytlcnjinabfbglaa.Pk
