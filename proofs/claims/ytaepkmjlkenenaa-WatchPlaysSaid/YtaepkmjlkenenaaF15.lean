/- A slice of structs that came in. -/
import Derived.Test.YtaepkmjlkenenaaF14
namespace Go.Proofs.Ytaepkmjlkenenaa
open Go.RowKit

theorem lie_of {α : Type} {cells : α → List Value} {sz : Nat} (hs : ∀ a, (cells a).length = sz) {good : α → Prop} {w : World} {a : Addr} : ∀ (len : Nat)
    (_ : ∀ i, i < len → ∃ x : α, good x ∧ ∀ j u, (cells x)[j]? = some u → w.cell? (a.add (i * sz + j)) = some u), ∃ l : List α, l.length = len ∧ Lie w (some a) (l.flatMap cells) ∧ ∀ x ∈ l, good x
  | 0, _ => ⟨[], rfl, (by intro j u h; simp at h), by simp⟩
  | n + 1, h => by
    obtain ⟨l, hl, hL, hg⟩ := lie_of hs n (fun i hi => h i (by omega))
    obtain ⟨x, hx, hc⟩ := h n (by omega)
    refine ⟨l ++ [x], by simp [hl], ?_, ?_⟩
    · intro j u hj
      have hfl := flat_len cells sz hs l
      rw [List.flatMap_append, List.getElem?_append] at hj
      by_cases hlt : j < (l.flatMap cells).length
      · rw [if_pos hlt] at hj
        exact hL j u hj
      · rw [if_neg hlt, hfl, hl] at hj
        refine ⟨a, rfl, ?_⟩
        have := hc (j - n * sz) u (by simpa using hj)
        rw [hfl, hl] at hlt
        rwa [show n * sz + (j - n * sz) = j by omega] at this
    · intro y hy
      rcases List.mem_append.1 hy with hy | hy
      · exact hg y hy
      · rw [List.mem_singleton.1 hy]; exact hx
end Go.Proofs.Ytaepkmjlkenenaa
