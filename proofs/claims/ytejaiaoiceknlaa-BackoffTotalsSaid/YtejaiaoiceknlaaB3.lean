import Derived.Test.YtejaiaoiceknlaaB2
namespace Go.Proofs.Ytejaiaoiceknlaa
open Go.RowKit

def fullV (p : Bo.Plan) (n : Int) : Int := if badN p n = 0 then Bo.full p n.toNat else 0
theorem bad_0 (p : Bo.Plan) (n : Int) : badN p n = 0 ↔ (Bo.may p = true ∧ 1 ≤ n ∧ n ≤ 1000) := by
  unfold badN; split
  · rename_i h; split <;> simp_all
  · rename_i h; simp_all
/-- what fulls leaves -/
theorem fulls_at (p : Bo.Plan) (w : World) : Calls Try.prog 22 #[planV p] w fun e w' => ∃ bw bp, bw ≠ bp ∧ w.heap.size ≤ bw ∧ w.heap.size ≤ bp ∧
    e = .returned (.func (.func 25) #[] #[.pointer (some ⟨bw, 0, none⟩), .pointer (some ⟨bp, 0, none⟩)]) ∧ NumAt w' bw 2 (.int .i64 0) ∧ PlanAt w' 24 bp p ∧ Below w.heap.size w w' := by
  refine (fulls_any p w).mono ?_
  rintro e w' ⟨rfl, rfl⟩
  have hb := Below.al (Below.refl _ w) (.cells #[.int .i64 p.base, .int .i64 p.cap, .int .i64 p.factor, .int .i64 p.spread, .int .u64 p.seed] 24)
  refine ⟨w.heap.size + 1, w.heap.size, by omega, by omega, Nat.le_refl _, rfl, ?_, (PlanAt.new w 24 p).keep (Below.al (Below.refl _ _) _), Below.al hb _⟩
  have := NumAt.new (w.alloc (.cells #[.int .i64 p.base, .int .i64 p.cap, .int .i64 p.factor, .int .i64 p.spread, .int .u64 p.seed] 24)) 2 (.int .i64 0)
  simpa using this
set_option maxRecDepth 100000 in
theorem full_any (p : Bo.Plan) (n : Int) (w : World) : Calls Try.prog 14 #[planV p, .int .i64 n] w fun e w' => e = .returned (.tuple #[.int .i64 (fullV p n), .int .i64 (badN p n)]) ∧ Below w.heap.size w w' := by
  obtain ⟨b, hb⟩ : ∃ b, badN p n = b := ⟨_, rfl⟩
  obtain ⟨f, hf⟩ : ∃ f, fullV p n = f := ⟨_, rfl⟩
  have hbad := bad_any p n
  rw [hf, hb]
  rw [hb] at hbad
  by_cases h0 : b = 0
  · obtain ⟨hp, h1, h2⟩ := (bad_0 p n).1 (hb.trans h0)
    obtain ⟨m, rfl⟩ := Int.eq_ofNat_of_zero_le (show 0 ≤ n by omega)
    have hfm : f = Bo.full p m := by rw [← hf]; unfold fullV; rw [if_pos (hb.trans h0)]; rfl
    subst h0
    subst hfm
    clear hf hb
    unfold planV
    go_enter Try.func14, Try.ntmps14
    go_wp2_with fail
    refine (hbad _).mono ?_
    clear hbad
    rintro e w1 ⟨rfl, hc⟩
    have hb0 := Below.call (Below.al (Below.refl _ w) (.cells #[.int .i64 p.base, .int .i64 p.cap, .int .i64 p.factor, .int .i64 p.spread, .int .u64 p.seed] 24)) hc
    obtain ⟨c0, c1, c2, c3, c4⟩ := ((PlanAt.new w 24 p).keep hc).facts
    clear hc
    go_wp2_with fail
    refine (fulls_at p _).mono ?_
    rintro e w2 ⟨bw, bp, hne, hbw, hbp, rfl, hN, hP, hc⟩
    replace hbw := Nat.le_trans hb0.size hbw
    replace hbp := Nat.le_trans hb0.size hbp
    replace hb0 := Below.call hb0 hc
    clear hc c0 c1 c2 c3 c4
    go_wp2_with fail
    go_loopw [8, 18] (fun x i wr => ∃ k : Nat, k ≤ m ∧ i = .int .i64 k ∧ x = .int .i64 (Bo.full p k) ∧ NumAt wr bw 2 (.int .i64 (Bo.full p k)) ∧ PlanAt wr 24 bp p ∧ Below w.heap.size w wr) (fun _ i _ => m - (intOf i).toNat)
    case atStart => exact ⟨0, Nat.zero_le _, rfl, rfl, hN, hP, hb0⟩
    case round =>
      obtain ⟨k, hk, rfl, rfl, hN, hP, hbr⟩ := hrel
      by_cases hlt : k < m
      · have hlt' : (k : Int) < (m : Int) := by omega
        obtain ⟨x0, x1⟩ := Bo.full_bd p hp k
        have hs : Bo.full p (k + 1) = Bo.step p (Bo.full p k) := rfl
        have HS := Lib.hid hs
        clear hs
        go_wp2_with fail
        refine (next_any p hp bw bp _ x0 x1 _ hN hP).mono ?_
        rintro e w' ⟨rfl, rfl⟩
        have N2 := hN.set (.int .i64 (Bo.step p (Bo.full p k)))
        have P2 := hP.other ⟨bw, 0, none⟩ (Ne.symm hne) (.int .i64 (Bo.step p (Bo.full p k)))
        have B2 := hbr.setCell (p := ⟨bw, 0, none⟩) hbw (.int .i64 (Bo.step p (Bo.full p k)))
        rw [← HS.out] at *
        go_wp2_with fail
        exact ⟨⟨k + 1, by omega, by go_num, rfl, N2, P2, B2⟩, by simp [intOf]; omega⟩
      · obtain rfl : k = m := by omega
        go_wp2_with fail
        go_ret2
        exact ⟨rfl, hbr⟩
  · have hf0 : f = 0 := by rw [← hf]; unfold fullV; rw [if_neg (by rw [hb]; exact h0)]
    subst hf0
    have hbb : (b == 0) = false := beq_false_of_ne h0
    have hbn : (b != 0) = true := by simp [h0]
    clear hf hb h0
    unfold planV
    go_enter Try.func14, Try.ntmps14
    go_wp2_with fail
    refine (hbad _).mono ?_
    clear hbad
    rintro e w1 ⟨rfl, hc⟩
    go_wp2_with fail
    go_ret2
    exact ⟨rfl, Below.call (Below.al (Below.refl _ _) _) hc⟩
end Go.Proofs.Ytejaiaoiceknlaa
