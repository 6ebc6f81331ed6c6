import Derived.Test.YtejaiaoiceknlaaB9
import Derived.Test.YtejaiaoiceknlaaBo4
namespace Go.Proofs.Ytejaiaoiceknlaa
open Go.RowKit

set_option maxRecDepth 100000 in
set_option maxHeartbeats 4000000 in
theorem bounds_any (p : Bo.Plan) (key : Int) (w : World) :
    Calls Try.prog 6 #[planV p, .int .u64 key] w fun e w' => e = .returned (.bool true) ∧ Below w.heap.size w w' := by
  have P0 := PlanAt.new w 24 p
  have hbr := Below.al (Below.refl w.heap.size w) (.cells #[.int .i64 p.base, .int .i64 p.cap, .int .i64 p.factor, .int .i64 p.spread, .int .u64 p.seed] 24)
  obtain ⟨b, hB⟩ : ∃ b, w.heap.size = b := ⟨_, rfl⟩
  unfold planV
  go_enter Try.func6, Try.ntmps6
  go_wp2_with fail
  rw [hB] at P0 hbr
  generalize w.alloc (.cells #[.int .i64 p.base, .int .i64 p.cap, .int .i64 p.factor, .int .i64 p.spread, .int .u64 p.seed] 24) = W0 at *
  refine (known_any _).mono ?_
  rintro e w1 ⟨rfl, hc⟩
  replace hbr := hbr.trans (hc.mono (Nat.le_of_lt P0.lt))
  replace P0 := P0.keep hc
  clear hc
  obtain ⟨c0, c1, c2, c3, c4⟩ := P0.facts
  go_wp2_with fail
  clear c0 c1 c2 c3 c4
  refine (refMay_any p _).mono ?_
  rintro e w2 ⟨rfl, hc⟩
  replace hbr := hbr.trans (hc.mono (Nat.le_of_lt P0.lt))
  replace P0 := P0.keep hc
  clear hc
  cases hp : Bo.may p with
  | false =>
    go_wp2_with fail
    go_ret
    exact ⟨rfl, hB ▸ hbr⟩
  | true =>
    have hm := (Bo.may_iff p).1 hp
    obtain ⟨m1, m2, m3, m4, m5, m6, m7⟩ := hm
    go_wp2_with fail
    go_loopw [5, 6] (fun x n wr => ∃ k : Nat, k ≤ 200 ∧ n = .int .i64 ((k : Int) + 1) ∧ x = .int .i64 (Bo.full p k) ∧ PlanAt wr 24 b p ∧ Below b w wr) (fun _ n _ => 201 - (intOf n).toNat)
    case atStart => exact ⟨0, Nat.zero_le _, rfl, rfl, P0, hbr⟩
    case round =>
      clear P0 hbr
      obtain ⟨k, hk, rfl, rfl, P0, hbr⟩ := hrel
      by_cases hlt : k < 200
      · have V1 : badN p ((k : Int) + 1) = 0 := (bad_0 p _).2 ⟨hp, by omega, by omega⟩
        have V2 : fullV p ((k : Int) + 1) = Bo.full p (k + 1) := by unfold fullV; rw [if_pos V1]; rfl
        have V3 : waitV p key ((k : Int) + 1) = Bo.wait p key ((k : Int) + 1) (Bo.full p (k + 1)) := by unfold waitV; rw [if_pos V1]; rfl
        have HV := Lib.hid (And.intro V1 (And.intro V2 V3))
        have g1 := Bo.full_up p hp k
        have g2 := (Bo.full_bd p hp (k + 1)).2
        have g3 := Bo.full_pos p hp k
        have g4 := Bo.wait_bd p hp key ((k : Int) + 1) _ g3
        have g5 := Bo.wait_lo p hp key ((k : Int) + 1) _ g3
        have g6 : (100 < p.factor ∧ Bo.full p (k + 1) = Bo.full p k ∧ Bo.full p (k + 1) = p.cap) ∨ (100 < p.factor ∧ Bo.full p (k + 1) ≠ Bo.full p k) ∨ (p.factor = 100 ∧ Bo.full p (k + 1) = p.base) := by
          by_cases hf : p.factor = 100
          · exact .inr (.inr ⟨hf, Bo.full_flat p hp hf k⟩)
          · have := Bo.full_stay p hp (by omega) k
            omega
        have g7 : p.spread = 0 → Bo.wait p key ((k : Int) + 1) (Bo.full p (k + 1)) = Bo.full p (k + 1) := fun hs => Bo.wait_same p hs key _ _ g3
        have hx604 : Bo.full p (k + 1) ≤ 604800 := by omega
        have hn200 : (k : Int) + 1 ≤ 200 := by omega
        clear V1 V2 V3
        generalize Bo.wait p key ((k : Int) + 1) (Bo.full p (k + 1)) = y at *
        obtain ⟨l, hl⟩ : ∃ l, Bo.full p k = l := ⟨_, rfl⟩
        obtain ⟨x, hx⟩ : ∃ x, Bo.full p (k + 1) = x := ⟨_, rfl⟩
        rw [hl, hx] at g1 g6
        rw [hx] at g2 g3 g4 g5 g7 hx604 HV
        rw [hl]
        obtain ⟨g4, g4'⟩ := g4
        obtain ⟨m, hmm⟩ : ∃ m, m = x * p.spread := ⟨_, rfl⟩
        have hm0 : 0 ≤ m := by rw [hmm]; exact Int.mul_nonneg (by omega) m6
        have hm1 : m ≤ 604800 * 100 := by rw [hmm]; exact Int.mul_le_mul hx604 m7 m6 (by omega)
        have hwm : IntKind.i64.wrap (x * p.spread) = m := by rw [← hmm]; exact IntWalk.i64_in _ (by omega)
        rw [← hmm] at g5
        have HX := Lib.hid (And.intro hx (And.intro hl (And.intro g6 (And.intro g7 hwm))))
        clear hx hl hmm g6 g7 hwm
        obtain ⟨c0, c1, c2, c3, c4⟩ := P0.facts
        go_wp2_with fail
        clear c0 c1 c2 c3 c4
        refine (full_any p _ _).mono ?_
        rw [HV.out.2.1, HV.out.1]
        rintro e w3 ⟨rfl, hc⟩
        replace hbr := hbr.trans (hc.mono (Nat.le_of_lt P0.lt))
        replace P0 := P0.keep hc
        clear hc
        obtain ⟨c0, c1, c2, c3, c4⟩ := P0.facts
        go_wp2_with fail
        clear c0 c1 c2 c3 c4
        refine (waitN_any p key _ _).mono ?_
        rw [HV.out.2.2, HV.out.1]
        rintro e w4 ⟨rfl, hc⟩
        replace hbr := hbr.trans (hc.mono (Nat.le_of_lt P0.lt))
        replace P0 := P0.keep hc
        clear hc
        obtain ⟨c0, c1, c2, c3, c4⟩ := P0.facts
        go_wp2_with fail
        clear c0 c1 c2 c3 c4
        refine (waitN_any p key _ _).mono ?_
        rw [HV.out.2.2, HV.out.1]
        rintro e w5 ⟨rfl, hc⟩
        replace hbr := hbr.trans (hc.mono (Nat.le_of_lt P0.lt))
        replace P0 := P0.keep hc
        clear hc
        obtain ⟨c0, c1, c2, c3, c4⟩ := P0.facts
        have hwm := HX.out.2.2.2.2
        have hend : NumAt w5 0 0 undef → True := fun _ => trivial
        rcases HX.out.2.2.1 with ⟨q1, q2, q3⟩ | ⟨q1, q2⟩ | ⟨q1, q3⟩
        · have q4 : (p.factor == 100) = false := beq_false_of_ne (by omega)
          have q5 : (x == l) = true := by simp [q2]
          have q6 : (x != p.cap) = false := by simp [q3]
          by_cases hs : p.spread = 0
          · have hs1 : (p.spread == 0) = true := by simp [hs]
            have hs2 : (y != x) = false := by simp [HX.out.2.2.2.1 hs]
            (try clear q2); (try clear q3); clear hs hend
            go_wp2_with fail
            exact ⟨⟨k + 1, by omega, by go_num, by rw [HX.out.1], P0, hbr⟩, by simp [intOf]; omega⟩
          · have hs1 : (p.spread == 0) = false := beq_false_of_ne hs
            (try clear q2); (try clear q3); clear hs hend
            go_wp2_with fail
            exact ⟨⟨k + 1, by omega, by go_num, by rw [HX.out.1], P0, hbr⟩, by simp [intOf]; omega⟩
        · have q4 : (p.factor == 100) = false := beq_false_of_ne (by omega)
          have q5 : (x == l) = false := beq_false_of_ne q2
          by_cases hs : p.spread = 0
          · have hs1 : (p.spread == 0) = true := by simp [hs]
            have hs2 : (y != x) = false := by simp [HX.out.2.2.2.1 hs]
            (try clear q2); (try clear q3); clear hs hend
            go_wp2_with fail
            exact ⟨⟨k + 1, by omega, by go_num, by rw [HX.out.1], P0, hbr⟩, by simp [intOf]; omega⟩
          · have hs1 : (p.spread == 0) = false := beq_false_of_ne hs
            (try clear q2); (try clear q3); clear hs hend
            go_wp2_with fail
            exact ⟨⟨k + 1, by omega, by go_num, by rw [HX.out.1], P0, hbr⟩, by simp [intOf]; omega⟩
        · have q4 : (p.factor == 100) = true := by simp [q1]
          have q5 : ¬ 100 < p.factor := by omega
          have q6 : (x != p.base) = false := by simp [q3]
          clear q1
          by_cases hs : p.spread = 0
          · have hs1 : (p.spread == 0) = true := by simp [hs]
            have hs2 : (y != x) = false := by simp [HX.out.2.2.2.1 hs]
            (try clear q2); (try clear q3); clear hs hend
            go_wp2_with fail
            exact ⟨⟨k + 1, by omega, by go_num, by rw [HX.out.1], P0, hbr⟩, by simp [intOf]; omega⟩
          · have hs1 : (p.spread == 0) = false := beq_false_of_ne hs
            (try clear q2); (try clear q3); clear hs hend
            go_wp2_with fail
            exact ⟨⟨k + 1, by omega, by go_num, by rw [HX.out.1], P0, hbr⟩, by simp [intOf]; omega⟩
      · obtain rfl : k = 200 := by omega
        have hfin : Bo.full p 200 = p.cap ∨ p.factor = 100 ∨ 200 < p.cap := by
          by_cases hf : p.factor = 100
          · exact .inr (.inl hf)
          · have := Bo.full_far p hp (by omega) 200
            have := (Bo.full_bd p hp 200).2
            omega
        obtain ⟨c0, c1, c2, c3, c4⟩ := P0.facts
        generalize Bo.full p 200 = x at *
        have hfin' : (x == p.cap) = true ∨ ((x == p.cap) = false ∧ (p.factor == 100) = true) ∨ ((x == p.cap) = false ∧ (p.factor == 100) = false ∧ 200 < p.cap) := by
          by_cases a1 : x = p.cap
          · left; simp [a1]
          · right
            by_cases a2 : p.factor = 100
            · left; simp [a1, a2]
            · right; simp [a1, a2]; omega
        clear hfin
        rcases hfin' with q1 | ⟨q1, q2⟩ | ⟨q1, q2, q3⟩
        all_goals
          go_wp2_with fail
          go_ret
          exact ⟨rfl, hB ▸ hbr⟩
end Go.Proofs.Ytejaiaoiceknlaa
