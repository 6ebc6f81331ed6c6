import Derived.Test.YtejaiaoiceknlaaB14
import Derived.Test.YtejaiaoiceknlaaB15
import Derived.Test.YtejaiaoiceknlaaB16
namespace Go.Proofs.Ytejaiaoiceknlaa
open Go.RowKit
theorem totals_any (p : Bo.Plan) (key n left seconds : Int) (hU : Bo.U key) (w : World) :
    Calls Try.prog 3 #[planV p, .int .u64 key, .int .i64 n, .int .i64 left, .int .i64 seconds] w fun e w' => e = .returned (.bool true) ∧ Below w.heap.size w w' := by
  by_cases h1 : 60 < n ∧ n ≤ 1000
  · exact totals_out p key n left seconds hU h1.1 h1.2 w
  cases hp : Bo.may p with
  | false =>
    by_cases h2 : n ≤ 60
    · exact totals_no1 p key n left seconds hU h2 hp w
    · exact totals_no2 p key n left seconds hU (by omega) (by omega) hp w
  | true =>
    by_cases hs : seconds < 0
    · by_cases h2 : n < 1
      · exact totals_a_neg p key n left seconds hU h2 hs hp w
      · by_cases h3 : n ≤ 60
        · obtain ⟨j, rfl⟩ : ∃ j : Nat, n = (j : Int) + 1 := ⟨(n - 1).toNat, by omega⟩
          exact totals_b_neg p key left seconds hU j (by omega) h3 hs hp w
        · exact totals_c_neg p key n left seconds hU (by omega) (by omega) hs hp w
    · by_cases h2 : n < 1
      · exact totals_a_pos p key n left seconds hU h2 hs hp w
      · by_cases h3 : n ≤ 60
        · obtain ⟨j, rfl⟩ : ∃ j : Nat, n = (j : Int) + 1 := ⟨(n - 1).toNat, by omega⟩
          exact totals_b_pos p key left seconds hU j (by omega) h3 hs hp w
        · exact totals_c_pos p key n left seconds hU (by omega) (by omega) hs hp w
end Go.Proofs.Ytejaiaoiceknlaa
