import Derived.Test.YtaepkmjlkenenaaL4
namespace Go.Proofs.Ytaepkmjlkenenaa
open Go.RowKit

theorem take_succ_ne (l m : List Int) (k : Nat) (hne : l.getD k 0 ≠ m.getD k 0) : l ≠ m := fun h => hne (by rw [h])
theorem take_succ_eq (l m : List Int) (k : Nat) (h1 : k < l.length) (h2 : k < m.length) (ht : l.take k = m.take k) (he : l.getD k 0 = m.getD k 0) : l.take (k + 1) = m.take (k + 1) := by
  rw [List.take_succ_eq_append_getElem h1, List.take_succ_eq_append_getElem h2, ht]
  simp [h1, h2] at he
  rw [he]
set_option maxRecDepth 100000 in
theorem same_any (va vb : Value) (l m : List Int) (w : World) (hA : Ints w va l) (hB : Ints w vb m) (hl : l.length ≤ 1000000) :
    Calls Try.prog 12 #[va, vb] w fun e w' => e = .returned (.bool (decide (l = m))) ∧ Below w.heap.size w w' := by
  obtain ⟨ao, ca, rfl, -, -, -⟩ := hA.form
  obtain ⟨bo, cb, rfl, -, -, -⟩ := hB.form
  by_cases hne : l.length = m.length
  · have hb1 : ((l.length : Int) != (m.length : Int)) = false := by simp; omega
    go_enter Try.func12, Try.ntmps12
    go_wp2_with fail
    go_loopw [5] (fun i wr => ∃ k : Nat, k ≤ l.length ∧ i = .int .i64 k ∧ l.take k = m.take k ∧ Below w.heap.size w wr) (fun i _ => l.length - (intOf i).toNat)
    case atStart => exact ⟨0, Nat.zero_le _, rfl, rfl, Below.refl _ _⟩
    case round =>
      obtain ⟨k, hk, rfl, ht, hb⟩ := hrel
      by_cases hlt : k < l.length
      · obtain ⟨b, off, rfl, hbl, hca⟩ := Ints.at (hA.keep hb) (by omega)
        have hck := hca k hlt
        obtain ⟨b2, off2, rfl, hbl2, hca2⟩ := Ints.at (hB.keep hb) (by omega)
        have hck2 := hca2 k (by omega)
        have hE := take_succ_eq l m k hlt (by omega) ht
        have hN := take_succ_ne l m k
        obtain ⟨x, hx⟩ : ∃ x, x = l.getD k 0 := ⟨_, rfl⟩
        obtain ⟨y, hy⟩ : ∃ y, y = m.getD k 0 := ⟨_, rfl⟩
        rw [← hx] at hck hE hN
        rw [← hy] at hck2 hE hN
        clear hca hca2 hx hy ht
        have hkm : (k : Int) < (m.length : Int) := by omega
        by_cases hxy : x = y
        · have hx2 : (x != y) = false := by simp [hxy]
          have HE := Lib.hid (hE hxy)
          clear hE hN hxy
          go_wp2_with fail
          go_region
          go_wp2_with fail
          exact ⟨⟨k + 1, by omega, by go_num, HE.out, Below.call hb (Below.refl _ _).drew⟩, by simp [intOf]; omega⟩
        · have hx2 : (x != y) = true := by simp [hxy]
          have HN : RowKit.Hid (decide (l = m) = false) := Lib.hid (by simp [hN hxy])
          clear hE hN hxy
          go_wp2_with fail
          go_region
          go_wp2_with fail
          go_ret
          exact ⟨ret_bool HN.out.symm, Below.call hb (Below.refl _ _).drew⟩
      · have HN : RowKit.Hid (decide (l = m) = true) := Lib.hid (by
          have : k = l.length := by omega
          subst this
          rw [List.take_length, hne, List.take_length] at ht
          simp [ht])
        clear ht
        go_wp2_with fail
        go_ret
        exact ⟨ret_bool HN.out.symm, hb⟩
  · have hb1 : ((l.length : Int) != (m.length : Int)) = true := by simp; omega
    have HN : RowKit.Hid (decide (l = m) = false) := Lib.hid (by simp; intro h; exact hne (by rw [h]))
    go_enter Try.func12, Try.ntmps12
    go_wp2_with fail
    go_ret
    exact ⟨ret_bool HN.out.symm, Below.refl _ _⟩

/-- a store where another value stands leaves a slice as it reads -/
theorem Sli.set {w : World} {v : Value} {us : List Value} (h : Sli w v us) {a : Addr} {x : Value} (hx : w.cell? a = some x) (hne : ∀ u ∈ us, u ≠ x) (y : Value) : Sli (w.setCell a y) v us := by
  obtain ⟨ao, cap, hv, h1, h2, h3, h4⟩ := h
  refine ⟨ao, cap, hv, h1, h2, h3, fun j u hu => ?_⟩
  obtain ⟨ad, ha, hc⟩ := h4 j u hu
  refine ⟨ad, ha, ?_⟩
  rw [World.cell?_setCell_other]
  · exact hc
  · intro he
    rw [← he, hx] at hc
    exact hne u (List.mem_of_getElem? hu) (Option.some.inj hc).symm
end Go.Proofs.Ytaepkmjlkenenaa
