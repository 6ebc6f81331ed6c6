/- Small laws, over any program: a field of a struct in a row of the call's own is written. -/
import Derived.Test.YtaepkmjlkenenaaSr
namespace Go.Proofs.Ytaepkmjlkenenaa
open Go.RowKit

theorem flat_set {α : Type} (cells : α → List Value) (sz : Nat) (hs : ∀ a, (cells a).length = sz) : ∀ (l : List α) (k : Nat) (a a' : α) (j : Nat) (u : Value), l[k]? = some a → j < sz → cells a' = (cells a).set j u → (l.flatMap cells).set (k * sz + j) u = (l.set k a').flatMap cells := by
  intro l
  induction l with
  | nil => intro k a a' j u h; simp at h
  | cons x l ih =>
    intro k a a' j u h hj hc
    cases k with
    | zero =>
      simp at h
      subst h
      rw [Nat.zero_mul, Nat.zero_add, List.flatMap_cons, List.set_append_left _ _ (by rw [hs]; exact hj), List.set_cons_zero, List.flatMap_cons, hc]
    | succ k =>
      simp at h
      rw [List.flatMap_cons, List.set_append_right _ _ (by rw [hs, Nat.add_mul, Nat.one_mul]; omega), List.set_cons_succ, List.flatMap_cons, hs]
      have e : (k + 1) * sz + j - sz = k * sz + j := by rw [Nat.add_mul, Nat.one_mul]; omega
      rw [e, ih k a a' j u h hj hc]
/-- the row's head -/
theorem ownN_row {w : World} {B : Nat} {E : TypeId} {sz : Nat} {v : Value} {n : Nat} {us : List Value} (h : w.ownsRow B E sz v n us) (hn : 0 < n) : ∃ g cap, v = .slice (some ⟨g, 0, none⟩) n cap ∧ B ≤ g ∧ g < w.heap.size := by
  rcases h.2 with ⟨rfl, rfl⟩ | ⟨g, cap, cur, rfl, hb, hg, h1⟩
  · omega
  · exact ⟨g, cap, rfl, hb, (Array.getElem?_eq_some_iff.1 hg).1⟩
theorem ownN_cell {w : World} {B : Nat} {E : TypeId} {sz : Nat} {g n cap : Nat} {us : List Value} (h : w.ownsRow B E sz (.slice (some ⟨g, 0, none⟩) n cap) n us) {j : Nat} {u : Value} (hj : us[j]? = some u) : w.cell? ⟨g, j, none⟩ = some u ∧ w.frozen? ⟨g, j, none⟩ = false := by
  have hl := h.1
  rcases h.2 with ⟨hv, _⟩ | ⟨g', cap', cur, hv, hb, hg, h1, h2, h3, h4⟩
  · cases hv
  · simp only [Value.slice.injEq, Option.some.injEq, Addr.mk.injEq, and_true, true_and] at hv
    obtain ⟨rfl, rfl⟩ := hv
    refine ⟨?_, frozen_of_row w g j _ E hg⟩
    rw [cell_of_row w g j cur E (0, 0) hg]
    have hjl := (List.getElem?_eq_some_iff.1 hj).1
    rw [← h4, List.getElem?_take, if_pos (by omega)] at hj
    simpa using hj
theorem ownN_set {w : World} {B : Nat} {E : TypeId} {sz : Nat} {g n cap : Nat} {us : List Value} (h : w.ownsRow B E sz (.slice (some ⟨g, 0, none⟩) n cap) n us) (j : Nat) (u : Value) : (w.setCell ⟨g, j, none⟩ u).ownsRow B E sz (.slice (some ⟨g, 0, none⟩) n cap) n (us.set j u) := by
  refine ⟨by rw [List.length_set]; exact h.1, ?_⟩
  rcases h.2 with ⟨hv, _⟩ | ⟨g', cap', cur, hv, hb, hg, h1, h2, h3, h4⟩
  · cases hv
  · simp only [Value.slice.injEq, Option.some.injEq, Addr.mk.injEq, and_true, true_and] at hv
    obtain ⟨rfl, rfl⟩ := hv
    refine .inr ⟨g, cap, cur.setIfInBounds j u, rfl, hb, heap_setCell_same w g j cur E u hg, h1, h2, by simpa using h3, ?_⟩
    rw [Array.toList_setIfInBounds, List.take_set, h4]
end Go.Proofs.Ytaepkmjlkenenaa
