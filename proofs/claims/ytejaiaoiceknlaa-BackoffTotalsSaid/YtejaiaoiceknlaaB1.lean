import Derived.Test.YtejaiaoiceknlaaRows
import Derived.Test.YtejaiaoiceknlaaBo
import Derived.Test.YtejaiaoiceknlaaKit
namespace Go.Proofs.Ytejaiaoiceknlaa
open Go.RowKit

abbrev planV (p : Bo.Plan) : Value := .agg #[.int .i64 p.base, .int .i64 p.cap, .int .i64 p.factor, .int .i64 p.spread, .int .u64 p.seed]

set_option maxRecDepth 100000 in
theorem may_any (p : Bo.Plan) (w : World) : Calls Try.prog 15 #[planV p] w fun e w' => e = .returned (.bool (Bo.may p)) ∧ Below w.heap.size w w' := by
  unfold planV
  go_enter Try.func15, Try.ntmps15
  go_wp2_with fail
  all_goals
    go_ret
    exact ⟨ret_bool (by unfold Bo.may; rw [Bool.eq_iff_iff]; simp only [Bool.and_eq_true, decide_eq_true_eq, Bool.false_eq_true, false_iff]; omega), Below.al (Below.refl _ _) _⟩
set_option maxRecDepth 100000 in
theorem drawn_any (p : Bo.Plan) (k n : Int) (w : World) : Calls Try.prog 26 #[planV p, .int .u64 k, .int .i64 n] w fun e w' => e = .returned (.int .u64 (Bo.drawn p k n)) ∧ Below w.heap.size w w' := by
  unfold planV
  go_enter Try.func26, Try.ntmps26
  go_wp2_with fail
  go_loop [7, 17] (fun x i => ∃ j : Nat, j ≤ 2 ∧ i = .int .i64 j ∧ x = .int .u64 (Bo.mixes j (Bo.first p.seed k n))) (fun _ i => 2 - (intOf i).toNat)
  case atStart => exact ⟨0, Nat.zero_le _, rfl, rfl⟩
  case round =>
    obtain ⟨j, hj, rfl, rfl⟩ := hrel
    obtain ⟨h0, h1⟩ := Bo.u_mixes j _ (Bo.u_first p.seed k n)
    by_cases hlt : j < 2
    · have hs : Bo.mixes (j + 1) (Bo.first p.seed k n) = Bo.mix (Bo.mixes j (Bo.first p.seed k n)) := rfl
      generalize Bo.mixes j (Bo.first p.seed k n) = x at *
      have HS := Lib.hid hs
      clear hs
      go_wp2_with fail
      go_round
      case rel => exact ⟨j + 1, by omega, by go_num, by rw [HS.out]; rfl⟩
      case measure => simp [intOf]; omega
    · obtain rfl : j = 2 := by omega
      have hs : Bo.last (Bo.mixes 2 (Bo.first p.seed k n)) = Bo.drawn p k n := rfl
      generalize Bo.mixes 2 (Bo.first p.seed k n) = x at *
      have HS := Lib.hid hs
      clear hs
      go_wp2_with fail
      go_ret
      exact ⟨by rw [← HS.out]; rfl, Below.al (Below.refl _ _) _⟩
set_option maxRecDepth 100000 in
theorem refDrawn_any (p : Bo.Plan) (k n : Int) (w : World) : Calls Try.prog 20 #[planV p, .int .u64 k, .int .i64 n] w fun e w' => e = .returned (.int .u64 (Bo.drawn p k n)) ∧ Below w.heap.size w w' := by
  obtain ⟨h0, h1⟩ := Bo.u_first p.seed k n
  obtain ⟨h2, h3⟩ := Bo.u_mix (Bo.first p.seed k n)
  obtain ⟨h4, h5⟩ := Bo.u_mix (Bo.mix (Bo.first p.seed k n))
  have e1 : bits .xor .u64 (bits .xor .u64 p.seed (IntKind.u64.wrap (k * 11400714819323198485))) (IntKind.u64.wrap (IntKind.u64.wrap n * 13787848793156543929)) = Bo.first p.seed k n := rfl
  have hd : Bo.drawn p k n = Bo.last (Bo.mix (Bo.mix (Bo.first p.seed k n))) := rfl
  generalize Bo.first p.seed k n = x at *
  have e2 : IntKind.u64.wrap (bits .xor .u64 x (x / 4294967296) * 15241094284759029579) = Bo.mix x := rfl
  generalize Bo.mix x = y at *
  have e3 : IntKind.u64.wrap (bits .xor .u64 y (y / 4294967296) * 15241094284759029579) = Bo.mix y := rfl
  generalize Bo.mix y = z at *
  have HD := Lib.hid hd
  clear hd
  unfold planV
  go_enter Try.func20, Try.ntmps20
  go_wp2_with fail
  go_ret
  exact ⟨by rw [HD.out]; rfl, Below.al (Below.refl _ _) _⟩
end Go.Proofs.Ytejaiaoiceknlaa
