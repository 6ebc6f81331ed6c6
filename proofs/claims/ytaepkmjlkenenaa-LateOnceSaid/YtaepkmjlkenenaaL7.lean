import Derived.Test.YtaepkmjlkenenaaL6
namespace Go.Proofs.Ytaepkmjlkenenaa
open Go.RowKit

set_option maxRecDepth 100000 in
theorem once_great (l : Lt.Lot) (vd vc : Value) (w : World) (hD : Ints w vd l.due) (hC : Ints w vc l.come) (h : 70 < l.due.length ∨ 70 < l.come.length ∨ Lt.may l = false) :
    Calls Try.prog 3 #[lotV l vd vc] w fun e w' => e = .returned (.bool true) ∧ Below w.heap.size w w' := by
  have hb0 : Below w.heap.size w (w.alloc (.cells #[.int .i64 l.pol, .int .i64 l.grace, .int .i64 l.now, vd, vc, .int .i64 l.room] 24)) := Below.al (Below.refl _ _) _
  have L := LotAt.new w l.pol l.grace l.now l.room vd vc
  have hD1 := hD.keep hb0
  have hC1 := hC.keep hb0
  have hq : (70 : Int) < (l.due.length : Int) ∨ (¬ (70 : Int) < (l.due.length : Int) ∧ (70 : Int) < (l.come.length : Int)) ∨ (¬ (70 : Int) < (l.due.length : Int) ∧ ¬ (70 : Int) < (l.come.length : Int) ∧ Lt.may l = false) := by
    by_cases h1 : 70 < l.due.length
    · exact .inl (by omega)
    · by_cases h2 : 70 < l.come.length
      · exact .inr (.inl (by omega))
      · rcases h with h | h | h
        · exact absurd h h1
        · exact absurd h h2
        · exact .inr (.inr ⟨by omega, by omega, h⟩)
  obtain ⟨ao, ca, rfl, -, -, -⟩ := hD.form
  obtain ⟨bo, cb, rfl, -, -, -⟩ := hC.form
  clear h
  unfold lotV
  generalize hW : w.alloc (.cells #[.int .i64 l.pol, .int .i64 l.grace, .int .i64 l.now, .slice ao l.due.length ca, .slice bo l.come.length cb, .int .i64 l.room] 24) = W at *
  rcases hq with g1 | ⟨g1, g2⟩ | ⟨g1, g2, g3⟩
  · go_enter Try.func3, Try.ntmps3
    go_wp2_with fail
    refine (known16_any _).mono ?_
    rintro e w1 ⟨rfl, hc1⟩
    obtain ⟨y0, y1, y2, y3, y4, y5⟩ := (L.keep hc1 L.lt).facts
    go_wp2_with fail
    go_ret
    exact ⟨rfl, Below.call hb0 hc1⟩
  · go_enter Try.func3, Try.ntmps3
    go_wp2_with fail
    refine (known16_any _).mono ?_
    rintro e w1 ⟨rfl, hc1⟩
    obtain ⟨y0, y1, y2, y3, y4, y5⟩ := (L.keep hc1 L.lt).facts
    go_wp2_with fail
    go_ret
    exact ⟨rfl, Below.call hb0 hc1⟩
  · go_enter Try.func3, Try.ntmps3
    go_wp2_with fail
    refine (known16_any _).mono ?_
    rintro e w1 ⟨rfl, hc1⟩
    obtain ⟨y0, y1, y2, y3, y4, y5⟩ := (L.keep hc1 L.lt).facts
    go_wp2_with fail
    refine (may_any l _ _ _ (hD1.keep hc1) (hC1.keep hc1)).mono ?_
    rw [g3]
    rintro e w2 ⟨rfl, hc2⟩
    go_wp2_with fail
    go_ret
    exact ⟨rfl, Below.call (Below.call hb0 hc1) hc2⟩
end Go.Proofs.Ytaepkmjlkenenaa
