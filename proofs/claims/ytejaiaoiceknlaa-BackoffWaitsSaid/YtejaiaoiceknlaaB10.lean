import Derived.Test.YtejaiaoiceknlaaB9
namespace Go.Proofs.Ytejaiaoiceknlaa
open Go.RowKit

set_option maxRecDepth 100000 in
set_option maxHeartbeats 4000000 in
theorem waits_any (p : Bo.Plan) (key n : Int) (w : World) :
    Calls Try.prog 5 #[planV p, .int .u64 key, .int .i64 n] w fun e w' => e = .returned (.bool true) ∧ Below w.heap.size w w' := by
  have P0 := PlanAt.new w 24 p
  have hb0 := Below.al (Below.refl w.heap.size w) (.cells #[.int .i64 p.base, .int .i64 p.cap, .int .i64 p.factor, .int .i64 p.spread, .int .u64 p.seed] 24)
  obtain ⟨b, hB⟩ : ∃ b, w.heap.size = b := ⟨_, rfl⟩
  unfold planV
  go_enter Try.func5, Try.ntmps5
  go_wp2_with fail
  rw [hB] at P0 hb0
  generalize w.alloc (.cells #[.int .i64 p.base, .int .i64 p.cap, .int .i64 p.factor, .int .i64 p.spread, .int .u64 p.seed] 24) = W0 at *
  refine (known_any _).mono ?_
  rintro e w1 ⟨rfl, hc⟩
  replace hb0 := hb0.trans (hc.mono (Nat.le_of_lt P0.lt))
  replace P0 := P0.keep hc
  obtain ⟨c0, c1, c2, c3, c4⟩ := P0.facts
  clear hc
  go_wp2_with fail
  have P1 := PlanAt.new w1 26 p
  have hal := Below.al (Below.refl w1.heap.size w1) (.cells #[.int .i64 p.base, .int .i64 p.cap, .int .i64 p.factor, .int .i64 p.spread, .int .u64 p.seed] 26)
  have hbl := P0.lt
  replace hb0 := hb0.trans (hal.mono (Nat.le_of_lt P0.lt))
  replace P0 := P0.keep hal
  generalize hB1 : w1.heap.size = b1 at *
  clear hal c0 c1 c2 c3 c4
  generalize w1.alloc (.cells #[.int .i64 p.base, .int .i64 p.cap, .int .i64 p.factor, .int .i64 p.spread, .int .u64 p.seed] 26) = W2 at *
  have hF : ∀ w', Below W2.heap.size W2 w' → PlanAt w' 24 b p ∧ PlanAt w' 26 b1 p := fun w' h => ⟨P0.keep h, P1.keep h⟩
  refine wp_region_held_drew (S := fun w' => Below W2.heap.size W2 w') (by kernel_rfl) (Below.refl _ _).drew (fun h0 => ?_)
  refine wpAnyH_take (i := 0) (oi := { dst := _, op := _, type := _, pos := _, after := _, guard := _ }) (v := ?va0) rfl (by kernel_rfl) (by kernel_rfl) (by kernel_rfl) (fun _ _ _ h => h) (Or.inl ⟨by rfl, ?ya0⟩) (by assumption) ?ra0; (case ya0 => intro w hSw; obtain ⟨A, B⟩ := hF w hSw; obtain ⟨c0, c1, c2, c3, c4⟩ := A.facts; obtain ⟨d0, d1, d2, d3, d4⟩ := B.facts; go_simp <;> with_reducible rfl); simp only [Act.put, List.setIfInBounds_toArray, List.set_cons_zero, List.set_cons_succ]
  refine wpAnyH_take (i := 2) (oi := { dst := _, op := _, type := _, pos := _, after := _, guard := _ }) (v := ?va2) rfl (by kernel_rfl) (by kernel_rfl) (by kernel_rfl) (fun _ _ _ h => h) (Or.inl ⟨by rfl, ?ya2⟩) (by assumption) ?ra2; (case ya2 => intro w hSw; obtain ⟨A, B⟩ := hF w hSw; obtain ⟨c0, c1, c2, c3, c4⟩ := A.facts; obtain ⟨d0, d1, d2, d3, d4⟩ := B.facts; go_simp <;> with_reducible rfl); simp only [Act.put, List.setIfInBounds_toArray, List.set_cons_zero, List.set_cons_succ]
  refine wpAnyH_ready (rs := [1]) (by kernel_rfl) (by simp) ?_
  refine AllReadyH.cons (o := { dst := _, op := _, type := _, pos := _, after := _, guard := _ }) rfl (fun K hK => ?_) AllReadyH.nil
  go_simp
  refine (may_any p _).mono ?_
  rintro e w3 ⟨rfl, hc⟩
  replace h0 := Below.call h0 hc
  refine hK.out _ _ h0 (fun _ => ?_)
  clear hK K hc
  refine wpAnyH_ready (rs := [3]) (by kernel_rfl) (by simp) ?_
  refine AllReadyH.cons (o := { dst := _, op := _, type := _, pos := _, after := _, guard := _ }) rfl (fun K hK => ?_) AllReadyH.nil
  go_simp
  refine (refMay_any p _).mono ?_
  rintro e w4 ⟨rfl, hc⟩
  replace h0 := Below.call h0 hc
  refine hK.out _ _ h0 (fun _ => ?_)
  clear hK K hc
  refine wpAnyH_take (i := 4) (oi := { dst := _, op := _, type := _, pos := _, after := _, guard := _ }) (v := ?va4) rfl (by kernel_rfl) (by kernel_rfl) (by kernel_rfl) (fun _ _ _ h => h) (Or.inl ⟨by rfl, ?ya4⟩) (by assumption) ?ra4; (case ya4 => intro w hSw; go_simp <;> with_reducible rfl); simp only [Act.put, List.setIfInBounds_toArray, List.set_cons_zero, List.set_cons_succ]
  refine wpAnyH_done (by kernel_rfl) ?_ _
  replace hb0 := hb0.trans (h0.mono (Nat.le_of_lt P0.lt))
  obtain ⟨P0, P1⟩ := hF _ h0
  clear hF h0
  obtain ⟨c0, c1, c2, c3, c4⟩ := P0.facts
  cases hp : Bo.may p with
  | false =>
    have V1 : badN p n = 2 := by unfold badN; rw [hp]; rfl
    have V2 : fullV p n = 0 := by unfold fullV; rw [if_neg (by omega)]
    have V3 : waitV p key n = 0 := by unfold waitV; rw [if_neg (by omega)]
    have HV := Lib.hid (And.intro V1 (And.intro V2 V3))
    clear V1 V2 V3
    go_wp2_with fail
    clear c0 c1 c2 c3 c4
    refine (full_any p _ _).mono ?_
    rw [HV.out.2.1, HV.out.1]
    rintro e w5 ⟨rfl, hc⟩
    replace hb0 := hb0.trans (hc.mono (Nat.le_of_lt P0.lt))
    replace P0 := P0.keep hc
    replace P1 := P1.keep hc
    clear hc
    obtain ⟨c0, c1, c2, c3, c4⟩ := P0.facts
    go_wp2_with fail
    clear c0 c1 c2 c3 c4
    refine (waitN_any p key _ _).mono ?_
    rw [HV.out.2.2, HV.out.1]
    rintro e w6 ⟨rfl, hc⟩
    replace hb0 := hb0.trans (hc.mono (Nat.le_of_lt P0.lt))
    replace P0 := P0.keep hc
    replace P1 := P1.keep hc
    clear hc
    obtain ⟨c0, c1, c2, c3, c4⟩ := P1.facts
    go_wp2_with fail
    clear c0 c1 c2 c3 c4
    refine (refMay_any p _).mono ?_
    rw [hp]
    rintro e w7 ⟨rfl, hc⟩
    replace hb0 := hb0.trans (hc.mono (Nat.le_of_lt P0.lt))
    replace P0 := P0.keep hc
    replace P1 := P1.keep hc
    clear hc
    clear hp
    go_wp2_with fail
    go_ret
    exact ⟨rfl, hB ▸ hb0⟩
  | true =>
    by_cases hn : 1 ≤ n ∧ n ≤ 1000
    · obtain ⟨hn1, hn2⟩ := hn
      obtain ⟨j, rfl⟩ : ∃ j : Nat, n = (j : Int) + 1 := ⟨(n - 1).toNat, by omega⟩
      have V1 : badN p ((j : Int) + 1) = 0 := (bad_0 p _).2 ⟨hp, by omega, by omega⟩
      have V2 : fullV p ((j : Int) + 1) = Bo.full p (j + 1) := by unfold fullV; rw [if_pos V1]; rfl
      have V3 : waitV p key ((j : Int) + 1) = Bo.wait p key ((j : Int) + 1) (Bo.full p (j + 1)) := by unfold waitV; rw [if_pos V1]; rfl
      have HV := Lib.hid (And.intro V1 (And.intro V2 V3))
      have hF := refFull_any p hp j
      have hWt := refWait_any p hp key j
      clear V1 V2 V3
      generalize Bo.full p (j + 1) = x at *
      generalize Bo.wait p key ((j : Int) + 1) x = y at *
      go_wp2_with fail
      clear c0 c1 c2 c3 c4
      refine (full_any p _ _).mono ?_
      rw [HV.out.2.1, HV.out.1]
      rintro e w5 ⟨rfl, hc⟩
      replace hb0 := hb0.trans (hc.mono (Nat.le_of_lt P0.lt))
      replace P0 := P0.keep hc
      replace P1 := P1.keep hc
      clear hc
      obtain ⟨c0, c1, c2, c3, c4⟩ := P0.facts
      go_wp2_with fail
      clear c0 c1 c2 c3 c4
      refine (waitN_any p key _ _).mono ?_
      rw [HV.out.2.2, HV.out.1]
      rintro e w6 ⟨rfl, hc⟩
      replace hb0 := hb0.trans (hc.mono (Nat.le_of_lt P0.lt))
      replace P0 := P0.keep hc
      replace P1 := P1.keep hc
      clear hc
      obtain ⟨c0, c1, c2, c3, c4⟩ := P1.facts
      go_wp2_with fail
      clear c0 c1 c2 c3 c4
      refine (refMay_any p _).mono ?_
      rw [hp]
      rintro e w7 ⟨rfl, hc⟩
      replace hb0 := hb0.trans (hc.mono (Nat.le_of_lt P0.lt))
      replace P0 := P0.keep hc
      replace P1 := P1.keep hc
      clear hc
      obtain ⟨c0, c1, c2, c3, c4⟩ := P1.facts
      go_wp2_with fail
      clear c0 c1 c2 c3 c4
      refine (hF _ (by omega)).mono ?_
      rintro e w8 ⟨rfl, hc⟩
      replace hb0 := hb0.trans (hc.mono (Nat.le_of_lt P0.lt))
      replace P0 := P0.keep hc
      replace P1 := P1.keep hc
      clear hc
      obtain ⟨c0, c1, c2, c3, c4⟩ := P1.facts
      go_wp2_with fail
      clear c0 c1 c2 c3 c4
      refine (hWt (by omega) _).mono ?_
      rintro e w9 ⟨rfl, hc⟩
      replace hb0 := hb0.trans (hc.mono (Nat.le_of_lt P0.lt))
      replace P0 := P0.keep hc
      replace P1 := P1.keep hc
      clear hc
      go_wp2_with fail
      go_ret
      exact ⟨rfl, hB ▸ hb0⟩
    · have V1 : badN p n = 50 := by unfold badN; rw [if_pos hp, if_neg hn]
      have V2 : fullV p n = 0 := by unfold fullV; rw [if_neg (by omega)]
      have V3 : waitV p key n = 0 := by unfold waitV; rw [if_neg (by omega)]
      have HV := Lib.hid (And.intro V1 (And.intro V2 V3))
      clear V1 V2 V3
      have hq : n < 1 ∨ (¬ n < 1 ∧ 1000 < n) := by omega
      clear hn
      go_wp2_with fail
      clear c0 c1 c2 c3 c4
      refine (full_any p _ _).mono ?_
      rw [HV.out.2.1, HV.out.1]
      rintro e w5 ⟨rfl, hc⟩
      replace hb0 := hb0.trans (hc.mono (Nat.le_of_lt P0.lt))
      replace P0 := P0.keep hc
      replace P1 := P1.keep hc
      clear hc
      obtain ⟨c0, c1, c2, c3, c4⟩ := P0.facts
      go_wp2_with fail
      clear c0 c1 c2 c3 c4
      refine (waitN_any p key _ _).mono ?_
      rw [HV.out.2.2, HV.out.1]
      rintro e w6 ⟨rfl, hc⟩
      replace hb0 := hb0.trans (hc.mono (Nat.le_of_lt P0.lt))
      replace P0 := P0.keep hc
      replace P1 := P1.keep hc
      clear hc
      obtain ⟨c0, c1, c2, c3, c4⟩ := P1.facts
      go_wp2_with fail
      clear c0 c1 c2 c3 c4
      refine (refMay_any p _).mono ?_
      rw [hp]
      rintro e w7 ⟨rfl, hc⟩
      replace hb0 := hb0.trans (hc.mono (Nat.le_of_lt P0.lt))
      replace P0 := P0.keep hc
      replace P1 := P1.keep hc
      clear hc
      rcases hq with q1 | ⟨q1, q2⟩
      all_goals
        go_wp2_with fail
        go_ret
        exact ⟨rfl, hB ▸ hb0⟩
end Go.Proofs.Ytejaiaoiceknlaa
