import Derived.Test.YtaepkmjlkenenaaL6
namespace Go.Proofs.Ytaepkmjlkenenaa
open Go.RowKit

set_option maxRecDepth 100000 in
theorem shift_great (l : Lt.Lot) (d g r : Int) (vd vc : Value) (w : World) (hD : Ints w vd l.due) (hC : Ints w vc l.come) (h : 70 < l.due.length ∨ 70 < l.come.length ∨ Lt.may l = false) :
    Calls Try.prog 4 #[lotV l vd vc, .int .i64 d, .int .i64 g, .int .i64 r] w fun e w' => e = .returned (.bool true) ∧ Below w.heap.size w w' := by
  have hb0 : Below w.heap.size w (w.alloc (.cells #[.int .i64 l.pol, .int .i64 l.grace, .int .i64 l.now, vd, vc, .int .i64 l.room] 24)) := Below.al (Below.refl _ _) _
  have L := LotAt.new w l.pol l.grace l.now l.room vd vc
  have hD1 := hD.keep hb0
  have hC1 := hC.keep hb0
  have hq : (70 : Int) < (l.due.length : Int) ∨ (¬ (70 : Int) < (l.due.length : Int) ∧ (70 : Int) < (l.come.length : Int)) ∨ (¬ (70 : Int) < (l.due.length : Int) ∧ ¬ (70 : Int) < (l.come.length : Int) ∧ Lt.may l = false) := by
    by_cases h1 : 70 < l.due.length
    · exact .inl (by omega)
    · by_cases h2 : 70 < l.come.length
      · exact .inr (.inl (by omega))
      · rcases h with h | h | h
        · exact absurd h h1
        · exact absurd h h2
        · exact .inr (.inr ⟨by omega, by omega, h⟩)
  obtain ⟨ao, ca, rfl, -, -, -⟩ := hD.form
  obtain ⟨bo, cb, rfl, -, -, -⟩ := hC.form
  clear h
  unfold lotV
  generalize hW : w.alloc (.cells #[.int .i64 l.pol, .int .i64 l.grace, .int .i64 l.now, .slice ao l.due.length ca, .slice bo l.come.length cb, .int .i64 l.room] 24) = W at *
  rcases hq with g1 | ⟨g1, g2⟩ | ⟨g1, g2, g3⟩
  · go_enter Try.func4, Try.ntmps4
    go_wp2_with fail
    refine (known16_any _).mono ?_
    rintro e w1 ⟨rfl, hc1⟩
    obtain ⟨y0, y1, y2, y3, y4, y5⟩ := (L.keep hc1 L.lt).facts
    go_wp2_with fail
    go_ret
    exact ⟨rfl, Below.call hb0 hc1⟩
  · go_enter Try.func4, Try.ntmps4
    go_wp2_with fail
    refine (known16_any _).mono ?_
    rintro e w1 ⟨rfl, hc1⟩
    obtain ⟨y0, y1, y2, y3, y4, y5⟩ := (L.keep hc1 L.lt).facts
    go_wp2_with fail
    go_ret
    exact ⟨rfl, Below.call hb0 hc1⟩
  · go_enter Try.func4, Try.ntmps4
    go_wp2_with fail
    refine (known16_any _).mono ?_
    rintro e w1 ⟨rfl, hc1⟩
    obtain ⟨y0, y1, y2, y3, y4, y5⟩ := (L.keep hc1 L.lt).facts
    go_wp2_with fail
    refine (may_any l _ _ _ (hD1.keep hc1) (hC1.keep hc1)).mono ?_
    rw [g3]
    rintro e w2 ⟨rfl, hc2⟩
    go_wp2_with fail
    go_ret
    exact ⟨rfl, Below.call (Below.call hb0 hc1) hc2⟩

set_option maxRecDepth 100000 in
set_option maxHeartbeats 8000000 in
theorem shift_out (l : Lt.Lot) (d g r : Int) (vd vc : Value) (w : World) (hD : Ints w vd l.due) (hC : Ints w vc l.come) (hm : Lt.may l = true)
    (h : d < 0 ∨ 4294967296 < d ∨ 13569465600 ≤ l.now + d ∨ g < 0 ∨ 4294967296 < g ∨ 4294967296 < l.grace ∨ r < 0 ∨ 64 < IntKind.i64.wrap (l.room + r) ∨ 64 < r) :
    Calls Try.prog 4 #[lotV l vd vc, .int .i64 d, .int .i64 g, .int .i64 r] w fun e w' => e = .returned (.bool true) ∧ Below w.heap.size w w' := by
  obtain ⟨hl, -⟩ := (Lt.may_iff l).1 hm
  have hb0 : Below w.heap.size w (w.alloc (.cells #[.int .i64 l.pol, .int .i64 l.grace, .int .i64 l.now, vd, vc, .int .i64 l.room] 24)) := Below.al (Below.refl _ _) _
  have L := LotAt.new w l.pol l.grace l.now l.room vd vc
  have hD1 := hD.keep hb0
  have hC1 := hC.keep hb0
  obtain ⟨ao, ca, rfl, -, -, -⟩ := hD.form
  obtain ⟨bo, cb, rfl, -, -, -⟩ := hC.form
  have hq : d < 0 ∨ (¬ d < 0 ∧ 4294967296 < d)
    ∨ (¬ d < 0 ∧ ¬ 4294967296 < d ∧ IntKind.i64.wrap (l.now + d) = l.now + d ∧ 13569465600 ≤ l.now + d)
    ∨ (¬ d < 0 ∧ ¬ 4294967296 < d ∧ IntKind.i64.wrap (l.now + d) = l.now + d ∧ ¬ 13569465600 ≤ l.now + d ∧ g < 0)
    ∨ (¬ d < 0 ∧ ¬ 4294967296 < d ∧ IntKind.i64.wrap (l.now + d) = l.now + d ∧ ¬ 13569465600 ≤ l.now + d ∧ ¬ g < 0 ∧ 4294967296 < g)
    ∨ (¬ d < 0 ∧ ¬ 4294967296 < d ∧ IntKind.i64.wrap (l.now + d) = l.now + d ∧ ¬ 13569465600 ≤ l.now + d ∧ ¬ g < 0 ∧ ¬ 4294967296 < g ∧ 4294967296 < l.grace)
    ∨ (¬ d < 0 ∧ ¬ 4294967296 < d ∧ IntKind.i64.wrap (l.now + d) = l.now + d ∧ ¬ 13569465600 ≤ l.now + d ∧ ¬ g < 0 ∧ ¬ 4294967296 < g ∧ ¬ 4294967296 < l.grace ∧ r < 0)
    ∨ (¬ d < 0 ∧ ¬ 4294967296 < d ∧ IntKind.i64.wrap (l.now + d) = l.now + d ∧ ¬ 13569465600 ≤ l.now + d ∧ ¬ g < 0 ∧ ¬ 4294967296 < g ∧ ¬ 4294967296 < l.grace ∧ ¬ r < 0 ∧ 64 < IntKind.i64.wrap (l.room + r))
    ∨ (¬ d < 0 ∧ ¬ 4294967296 < d ∧ IntKind.i64.wrap (l.now + d) = l.now + d ∧ ¬ 13569465600 ≤ l.now + d ∧ ¬ g < 0 ∧ ¬ 4294967296 < g ∧ ¬ 4294967296 < l.grace ∧ ¬ r < 0 ∧ ¬ 64 < IntKind.i64.wrap (l.room + r) ∧ 64 < r) := by
    by_cases a1 : d < 0
    · exact .inl a1
    by_cases a2 : 4294967296 < d
    · exact .inr (.inl ⟨a1, a2⟩)
    have hw : IntKind.i64.wrap (l.now + d) = l.now + d := wrap_small _ (by omega) (by omega)
    generalize IntKind.i64.wrap (l.room + r) = q at *
    omega
  generalize hW : w.alloc (.cells #[.int .i64 l.pol, .int .i64 l.grace, .int .i64 l.now, .slice ao l.due.length ca, .slice bo l.come.length cb, .int .i64 l.room] 24) = W at *
  have g1 : ¬ (70 : Int) < (l.due.length : Int) := by omega
  have g2 : ¬ (70 : Int) < (l.come.length : Int) := by omega
  clear h hl
  unfold lotV
  go_enter Try.func4, Try.ntmps4
  go_wp2_with fail
  refine (known16_any _).mono ?_
  rintro e w1 ⟨rfl, hc1⟩
  have L1 := L.keep hc1 L.lt
  obtain ⟨y0, y1, y2, y3, y4, y5⟩ := L1.facts
  go_wp2_with fail
  refine (may_any l _ _ _ (hD1.keep hc1) (hC1.keep hc1)).mono ?_
  rw [hm]
  rintro e w2 ⟨rfl, hc2⟩
  clear y0 y1 y2 y3 y4 y5
  obtain ⟨y0, y1, y2, y3, y4, y5⟩ := (L1.keep hc2 L1.lt).facts
  rcases hq with k1 | ⟨k1, k2⟩ | ⟨k1, k2, k3, k4⟩ | ⟨k1, k2, k3, k4, k5⟩ | ⟨k1, k2, k3, k4, k5, k6⟩ | ⟨k1, k2, k3, k4, k5, k6, k7⟩ | ⟨k1, k2, k3, k4, k5, k6, k7, k8⟩ | ⟨k1, k2, k3, k4, k5, k6, k7, k8, k9⟩ | ⟨k1, k2, k3, k4, k5, k6, k7, k8, k9, k10⟩
  all_goals
    go_wp2_with fail
    all_goals (first | (go_ret; exact ⟨rfl, Below.call (Below.call hb0 hc1) hc2⟩) | (exfalso; have hww : wrap64 (l.room + r) = IntKind.i64.wrap (l.room + r) := (IntWalk.i64_left _).symm; omega))
end Go.Proofs.Ytaepkmjlkenenaa
