import Derived.Test.YtaepkmjlkenenaaLt
/- Plain: the walk over all moments, one by one: each is the next one that is due, or the next one that is skipped. -/
namespace Go.Proofs.Ytaepkmjlkenenaa.Lt
/-- how far the walk is: i due, k skipped -/
def Inv (p s : Nat) (i k t : Nat) : Prop := i + k = t ∧ ((k = 0 ∧ i ≤ p) ∨ (i = p ∧ k ≤ s) ∨ (k = s ∧ p ≤ i))
theorem up_lt {A : List Int} (h : Up A) {x y : Nat} (hxy : x < y) (hy : y < A.length) : A.getD x 0 < A.getD y 0 := by
  have := List.pairwise_iff_getElem.1 h x y (by omega) hy hxy
  simpa [show x < A.length by omega, hy] using this
theorem getD_app (a b : List Int) (i : Nat) : (a ++ b).getD i 0 = if i < a.length then a.getD i 0 else b.getD (i - a.length) 0 := by
  simp only [List.getD_eq_getElem?_getD, List.getElem?_append]
  split <;> rfl
/-- what a round meets -/
inductive Round (D S A : List Int) (Q : Nat → Nat → Nat → Prop) (i k t : Nat) : Prop
  | due (h1 : i < D.length) (h2 : D.getD i 0 = A.getD t 0) (h3 : Q (i + 1) k (t + 1))
  | skip1 (h0 : i < D.length) (h1 : D.getD i 0 ≠ A.getD t 0) (h2 : k < S.length) (h3 : S.getD k 0 = A.getD t 0) (h4 : Q i (k + 1) (t + 1))
  | skip2 (h0 : ¬ i < D.length) (h2 : k < S.length) (h3 : S.getD k 0 = A.getD t 0) (h4 : Q i (k + 1) (t + 1))
theorem round_at (l : Lot) (h : may l = true) : ∃ Q : Nat → Nat → Nat → Prop, Q 0 0 0 ∧ ∀ i k t, Q i k t → t < (l.due ++ l.come).length → Round (dueOf l) (skipOf l) (l.due ++ l.come) Q i k t := by
  obtain ⟨hm, hr⟩ := (may_iff l).1 h
  obtain ⟨P, S, C, h1, h2, h3⟩ := told l
  have hup := ((rises_iff l.now (l.due ++ l.come) (-1)).1 hr).2
  rw [h1] at hup ⊢
  rw [h2, h3]
  refine ⟨Inv P.length S.length, ⟨rfl, .inl ⟨rfl, Nat.zero_le _⟩⟩, ?_⟩
  intro i k t ⟨ht, hi⟩ hlt
  simp only [List.length_append] at hlt
  by_cases c1 : i < P.length
  · have hk : k = 0 := by omega
    subst hk
    refine .due (by simp; omega) ?_ ⟨by omega, .inl ⟨rfl, by omega⟩⟩
    rw [getD_app, if_pos c1, getD_app, if_pos (by simp; omega), getD_app, if_pos (by omega)]
    congr 1
  by_cases c2 : k < S.length
  · have hi' : i = P.length := by omega
    have hA : (P ++ S ++ C).getD t 0 = S.getD k 0 := by
      rw [getD_app, if_pos (by simp; omega), getD_app, if_neg (by omega)]
      congr 1; omega
    by_cases c3 : i < (P ++ C).length
    · refine .skip1 c3 ?_ c2 hA.symm ⟨by omega, .inr (.inl ⟨hi', by omega⟩)⟩
      have hy : P.length + S.length < (P ++ S ++ C).length := by simp at c3 ⊢; omega
      have := up_lt hup (show t < P.length + S.length by omega) hy
      have he : (P ++ C).getD i 0 = (P ++ S ++ C).getD (P.length + S.length) 0 := by
        rw [getD_app, if_neg (by omega), getD_app, if_neg (by simp)]
        congr 1; simp; omega
      rw [he]
      omega
    · exact .skip2 c3 c2 hA.symm ⟨by omega, .inr (.inl ⟨hi', by omega⟩)⟩
  · have hk : k = S.length := by omega
    refine .due (by simp; omega) ?_ ⟨by omega, .inr (.inr ⟨hk, by omega⟩)⟩
    rw [getD_app, if_neg c1, getD_app, if_neg (by simp; omega)]
    congr 1; simp; omega
end Go.Proofs.Ytaepkmjlkenenaa.Lt
