/- Rows of bytes that came in. -/
import Derived.Test.YtlcnjinabfbglaaQ14
import Derived.Test.YtlcnjinabfbglaaOb
import Derived.Deep.Fields
import Derived.Deep.Slices
namespace Go.Proofs.Ytlcnjinabfbglaa
open Go.ChangeShapes Go.WideShapes Go.ChangeAt Go.RowKit Go.Deep
theorem rows_of {w : World} {a : Addr} : ∀ n : Nat, (∀ i, i < n → ∃ u l, w.cell? (a.add i) = some u ∧ Bts w u l) → ∃ us ls, us.length = n ∧ Parts w us ls ∧ ∀ j u, us[j]? = some u → w.cell? (a.add j) = some u
  | 0, _ => ⟨[], [], rfl, ⟨rfl, fun i hi => by simp at hi⟩, fun j u h => by simp at h⟩
  | n + 1, h => by
    obtain ⟨us, ls, h1, h2, h3⟩ := rows_of n (fun i hi => h i (by omega))
    obtain ⟨u, l, hc, hB⟩ := h n (by omega)
    refine ⟨us ++ [u], ls ++ [l], by rw [List.length_append, h1]; rfl, h2.snoc hB, fun j x hj => ?_⟩
    by_cases hjn : j < n
    · rw [List.getElem?_append_left (by omega)] at hj
      exact h3 j x hj
    · rw [List.getElem?_append_right (by omega)] at hj
      have hj0 : j - us.length = 0 := by
        have := (List.getElem?_eq_some_iff.1 hj).1
        simp at this; omega
      rw [hj0] at hj
      obtain rfl : u = x := by simpa using hj
      have : j = n := by omega
      rw [this]; exact hc
theorem open_rows {H : Type} {enc : TypeId × Value → H} {w : World} {r : Reach} {b0 : Nat} {v : Value} {d : DataW H} {p : List MemPlace} (hv : Value.okWide Try.prog w r b0 47 v) (h : DataW.Trod enc Try.prog w 0 (fun _ => true) true 47 v d p) :
    ∃ us ls, Sli w v us ∧ Parts w us ls := by
  obtain ⟨a0, n0, c0, rfl⟩ := okWide_slice Try.underlying47 hv
  obtain ⟨n, hn⟩ := h
  have hC : Try.prog.cellsOf 22 = 1 := by kernel_rfl
  rcases open_slice Try.underlying47 hn with ⟨h0, -⟩ | ⟨a, len, cap, m, n', D, Pl, hcs, hb, hl, hm, hmm, hx, hi⟩
  · obtain ⟨rfl, rfl, rfl⟩ : a0 = none ∧ n0 = 0 ∧ c0 = 0 := by simpa [Value.cells] using h0
    exact ⟨[], [], Sli.nil w, rfl, fun i hi => by simp at hi⟩
  · obtain ⟨rfl, rfl, rfl⟩ : a0 = some a ∧ n0 = len ∧ c0 = cap := by simpa [Value.cells] using hcs
    have hlm : n0 ≤ m := by rw [hmm]; simp; omega
    obtain ⟨us, ls, h1, h2, h3⟩ := rows_of (w := w) (a := a) n0 (fun i him => by
      obtain ⟨cs', hc, ht'⟩ := hi i (by omega)
      rw [hC] at hc
      obtain ⟨_, hcl, hat⟩ := World.cells?_some hc
      have h0 := hat 0 (by omega)
      obtain ⟨u, hu⟩ : ∃ u, cs' = [u] := by
        match cs', hcl with
        | [u], _ => exact ⟨u, rfl⟩
      subst hu
      refine ⟨u, ?_⟩
      have hcell : w.cell? (a.add i) = some u := by
        have e : (a.add (i * 1)).add 0 = a.add i := by
          obtain ⟨b, o, s⟩ := a
          simp [Addr.add]
        rw [e] at h0
        simpa using h0
      rcases open_ints Try.underlying22 Try.underlying5 (by kernel_rfl) ht' with ⟨hcs, _⟩ | ⟨x, l, c, zs, hcs, _, hl, hm, hz, _, hcell2, hwz⟩
      · obtain rfl : u = .slice none 0 0 := by simpa using hcs
        exact ⟨[], hcell, Sli.nil w⟩
      · obtain rfl : u = .slice (some x) l c := by simpa using hcs
        obtain ⟨bl, -, hB⟩ := bts_of_ints (.inr ⟨_, rfl, hl, hm, by simpa using hz, hcell2, hwz⟩)
        exact ⟨bl, hcell, hB⟩)
    refine ⟨us, ls, ⟨some a, c0, by rw [h1], by omega, hm, (fun h => by cases h), fun j u hj => ⟨a, rfl, h3 j u hj⟩⟩, h2⟩
end Go.Proofs.Ytlcnjinabfbglaa
