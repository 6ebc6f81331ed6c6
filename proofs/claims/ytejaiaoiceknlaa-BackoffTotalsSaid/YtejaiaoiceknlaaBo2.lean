import Derived.Test.YtejaiaoiceknlaaBo
/- Plain: bounds of waits; as many attempts fit as are ahead. -/
namespace Go.Proofs.Ytejaiaoiceknlaa.Bo
open Go.RowKit
theorem wait_bd (p : Plan) (h : may p = true) (key n f : Int) (hf : 1 ≤ f) : 1 ≤ wait p key n f ∧ wait p key n f ≤ f := by
  have hm := (may_iff p).1 h
  have h1 : 0 ≤ f * p.spread := Int.mul_nonneg (by omega) (by omega)
  have h2 := Int.emod_nonneg (drawn p key n) (show f * p.spread / 100 + 1 ≠ 0 by omega)
  unfold wait
  omega
theorem wait_lo (p : Plan) (h : may p = true) (key n f : Int) (hf : 1 ≤ f) : f - f * p.spread / 100 ≤ wait p key n f := by
  have hm := (may_iff p).1 h
  have h1 : 0 ≤ f * p.spread := Int.mul_nonneg (by omega) (by omega)
  have h2 := Int.emod_lt_of_pos (drawn p key n) (show 0 < f * p.spread / 100 + 1 by omega)
  unfold wait
  omega
theorem at_succ (p : Plan) (key : Int) (k : Nat) : at' p key (k + 1) = at' p key k + wait p key ((k : Int) + 1) (full p (k + 1)) := rfl
theorem wait_le (p : Plan) (h : may p = true) (key n : Int) (k : Nat) : 1 ≤ wait p key n (full p (k + 1)) ∧ wait p key n (full p (k + 1)) ≤ 604800 := by
  have h1 := wait_bd p h key n _ (full_pos p h k)
  have h2 := (full_bd p h (k + 1)).2
  have hm := (may_iff p).1 h
  omega
theorem at_bd (p : Plan) (h : may p = true) (key : Int) (k : Nat) : (k : Int) ≤ at' p key k ∧ at' p key k ≤ 604800 * k := by
  induction k with
  | zero => unfold at'; omega
  | succ k ih => have := wait_le p h key ((k : Int) + 1) k; rw [at_succ]; omega
theorem at_lt (p : Plan) (h : may p = true) (key : Int) (k : Nat) : at' p key k < at' p key (k + 1) := by
  have := wait_le p h key ((k : Int) + 1) k; rw [at_succ]; omega
theorem at_mono (p : Plan) (h : may p = true) (key : Int) {a b : Nat} (hab : a ≤ b) : at' p key a ≤ at' p key b := by
  induction b with
  | zero => obtain rfl : a = 0 := by omega
            exact Int.le_refl _
  | succ b ih =>
    by_cases he : a = b + 1
    · subst he; exact Int.le_refl _
    · have := at_lt p h key b; have := ih (by omega); omega
/-- how many fit, of k at most -/
def fit (p : Plan) (key s : Int) : Nat → Nat
  | 0 => 0
  | k + 1 => if at' p key (k + 1) ≤ s then k + 1 else fit p key s k
theorem fit_spec (p : Plan) (h : may p = true) (key s : Int) (k : Nat) : fit p key s k ≤ k ∧ (∀ j, 1 ≤ j → j ≤ k → (at' p key j ≤ s ↔ j ≤ fit p key s k)) := by
  induction k with
  | zero => exact ⟨Nat.le_refl _, fun j h1 h2 => by omega⟩
  | succ k ih =>
    unfold fit
    split
    · rename_i hs
      exact ⟨Nat.le_refl _, fun j h1 h2 => ⟨fun _ => h2, fun _ => Int.le_trans (at_mono p h key h2) hs⟩⟩
    · rename_i hs
      refine ⟨by omega, fun j h1 h2 => ?_⟩
      by_cases he : j = k + 1
      · subst he
        exact ⟨fun h => absurd h hs, fun h => by omega⟩
      · exact ih.2 j h1 (by omega)
theorem fit_eq (p : Plan) (h : may p = true) (key s : Int) (k m : Nat) (hk : k ≤ m) (h1 : k = 0 ∨ at' p key k ≤ s) (h2 : k = m ∨ s < at' p key (k + 1)) : fit p key s m = k := by
  obtain ⟨a, b⟩ := fit_spec p h key s m
  have hle : k ≤ fit p key s m := by
    rcases h1 with h1 | h1
    · omega
    · by_cases hk0 : k = 0
      · omega
      · exact (b k (by omega) hk).1 h1
  have hge : fit p key s m ≤ k := by
    rcases h2 with h2 | h2
    · omega
    · rcases Nat.lt_or_ge k (fit p key s m) with hlt | hge
      · have := (b (k + 1) (by omega) (by omega)).2 (by omega)
        omega
      · exact hge
  omega
end Go.Proofs.Ytejaiaoiceknlaa.Bo
