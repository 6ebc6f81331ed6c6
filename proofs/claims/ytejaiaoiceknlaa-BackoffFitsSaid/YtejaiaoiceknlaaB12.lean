import Derived.Test.YtejaiaoiceknlaaB9
namespace Go.Proofs.Ytejaiaoiceknlaa
open Go.RowKit

set_option maxRecDepth 100000 in
set_option maxHeartbeats 4000000 in
theorem fits_any (p : Bo.Plan) (key n : Int) (hU : Bo.U key) (hn0 : 0 ≤ n) (hn1 : n ≤ 255) (w : World) :
    Calls Try.prog 7 #[planV p, .int .u64 key, .int .u8 n] w fun e w' => e = .returned (.bool true) ∧ Below w.heap.size w w' := by
  have P0 := PlanAt.new w 24 p
  have hbr := Below.al (Below.refl w.heap.size w) (.cells #[.int .i64 p.base, .int .i64 p.cap, .int .i64 p.factor, .int .i64 p.spread, .int .u64 p.seed] 24)
  obtain ⟨b, hB⟩ : ∃ b, w.heap.size = b := ⟨_, rfl⟩
  obtain ⟨j, hj⟩ : ∃ j : Nat, 1 + n % 100 = (j : Int) + 1 := ⟨(n % 100).toNat, by omega⟩
  have hj99 : (j : Int) ≤ 99 := by omega
  unfold planV
  go_enter Try.func7, Try.ntmps7
  go_wp2_with fail
  rw [hB] at P0 hbr
  generalize w.alloc (.cells #[.int .i64 p.base, .int .i64 p.cap, .int .i64 p.factor, .int .i64 p.spread, .int .u64 p.seed] 24) = W0 at *
  refine (known_any _).mono ?_
  rintro e w1 ⟨rfl, hc⟩
  replace hbr := hbr.trans (hc.mono (Nat.le_of_lt P0.lt))
  replace P0 := P0.keep hc
  clear hc
  obtain ⟨c0, c1, c2, c3, c4⟩ := P0.facts
  go_wp2_with fail
  clear c0 c1 c2 c3 c4
  refine (refMay_any p _).mono ?_
  rintro e w2 ⟨rfl, hc⟩
  replace hbr := hbr.trans (hc.mono (Nat.le_of_lt P0.lt))
  replace P0 := P0.keep hc
  clear hc
  cases hp : Bo.may p with
  | false =>
    go_wp2_with fail
    go_ret
    exact ⟨rfl, hB ▸ hbr⟩
  | true =>
    have b1 : badN p ((j : Int) + 1) = 0 := (bad_0 p _).2 ⟨hp, by omega, by omega⟩
    have b2 : badN p ((j : Int) + 2) = 0 := (bad_0 p _).2 ⟨hp, by omega, by omega⟩
    have t1 : ∀ z, z = (j : Int) + 1 → totalV p key z = Bo.at' p key (j + 1) ∧ badN p z = 0 := by
      rintro z rfl; exact ⟨by unfold totalV; rw [if_pos b1]; rfl, b1⟩
    have t2 : ∀ z, z = (j : Int) + 2 → totalV p key z = Bo.at' p key (j + 2) ∧ badN p z = 0 := by
      rintro z rfl; exact ⟨by unfold totalV; rw [if_pos b2]; rfl, b2⟩
    have t3 : ∀ z, z = (j : Int) + 2 → waitV p key z = Bo.wait p key ((j : Int) + 2) (Bo.full p (j + 2)) ∧ badN p z = 0 := by
      rintro z rfl; exact ⟨by unfold waitV; rw [if_pos b2]; rfl, b2⟩
    have ha : Bo.at' p key (j + 2) = Bo.at' p key (j + 1) + Bo.wait p key ((j : Int) + 2) (Bo.full p (j + 2)) := by
      have := Bo.at_succ p key (j + 1)
      rw [show (((j + 1 : Nat) : Int) + 1) = (j : Int) + 2 by omega] at this
      exact this
    have l1 := Bo.at_lt p hp key j
    have l2 : Bo.at' p key (j + 1) < Bo.at' p key (j + 2) := Bo.at_lt p hp key (j + 1)
    have l3 := (Bo.at_bd p hp key (j + 1)).1
    have l4 := (Bo.at_bd p hp key (j + 2)).2
    have fe : ∀ z, 0 ≤ z → fitE p z = 0 := fun z hz => by unfold fitE; rw [if_pos ⟨hp, hz⟩]
    have e1 : fitV p key (Bo.at' p key (j + 1)) = (j : Int) + 1 := by
      unfold fitV
      rw [if_pos ⟨hp, by omega⟩, Bo.fit_eq p hp key _ (j + 1) 1000 (by omega) (.inr (Int.le_refl _)) (.inr l2)]; rfl
    have e2 : fitV p key (Bo.at' p key (j + 1) - 1) = (j : Int) := by
      unfold fitV
      rw [if_pos ⟨hp, by omega⟩, Bo.fit_eq p hp key _ j 1000 (by omega) (.inr (by omega)) (.inr (by omega))]
    have e3 : fitV p key (Bo.at' p key (j + 2) - 1) = (j : Int) + 1 := by
      unfold fitV
      rw [if_pos ⟨hp, by omega⟩, Bo.fit_eq p hp key _ (j + 1) 1000 (by omega) (.inr (by omega)) (.inr (by show _ < Bo.at' p key (j + 2); omega))]; rfl
    have l5 := (Bo.at_bd p hp key j).1
    obtain ⟨A, hA⟩ : ∃ A, Bo.at' p key (j + 1) = A := ⟨_, rfl⟩
    obtain ⟨C, hC⟩ : ∃ C, Bo.at' p key (j + 2) = C := ⟨_, rfl⟩
    obtain ⟨y, hy⟩ : ∃ y, Bo.wait p key ((j : Int) + 2) (Bo.full p (j + 2)) = y := ⟨_, rfl⟩
    have l2' : A < C := by rw [← hA, ← hC]; exact l2
    rw [hA] at t1 ha e1 e2 l3
    rw [hC] at t2 ha e3 l4
    rw [hy] at t3 ha
    have hac : (C != A + y) = false := by simp [ha]
    have hay : IntKind.i64.wrap (A + y) = A + y := IntWalk.i64_in _ (by omega)
    have hy0 : 0 < y := by omega
    have hA1 : 1 ≤ A := by omega
    have hC9 : C ≤ 99999999999 := by omega
    have HT := Lib.hid (And.intro t1 (And.intro t2 t3))
    have HE := Lib.hid (And.intro e1 (And.intro e2 e3))
    have HF := Lib.hid fe
    clear b1 b2 t1 t2 t3 ha l1 l2 l3 l4 l5 fe e1 e2 e3 hA hC hy
    obtain ⟨c0, c1, c2, c3, c4⟩ := P0.facts
    go_wp2_with fail
    clear c0 c1 c2 c3 c4
    refine (total_any p key _ hU _).mono ?_
    rw [(HT.out.1 _ (by omega)).1, (HT.out.1 _ (by omega)).2]
    rintro e w3 ⟨rfl, hc⟩
    replace hbr := hbr.trans (hc.mono (Nat.le_of_lt P0.lt))
    replace P0 := P0.keep hc
    clear hc
    obtain ⟨c0, c1, c2, c3, c4⟩ := P0.facts
    go_wp2_with fail
    clear c0 c1 c2 c3 c4
    refine (total_any p key _ hU _).mono ?_
    rw [(HT.out.2.1 _ (by omega)).1, (HT.out.2.1 _ (by omega)).2]
    rintro e w4 ⟨rfl, hc⟩
    replace hbr := hbr.trans (hc.mono (Nat.le_of_lt P0.lt))
    replace P0 := P0.keep hc
    clear hc
    obtain ⟨c0, c1, c2, c3, c4⟩ := P0.facts
    go_wp2_with fail
    clear c0 c1 c2 c3 c4
    refine (waitN_any p key _ _).mono ?_
    rw [(HT.out.2.2 _ (by omega)).1, (HT.out.2.2 _ (by omega)).2]
    rintro e w5 ⟨rfl, hc⟩
    replace hbr := hbr.trans (hc.mono (Nat.le_of_lt P0.lt))
    replace P0 := P0.keep hc
    clear hc
    obtain ⟨c0, c1, c2, c3, c4⟩ := P0.facts
    go_wp2_with fail
    clear c0 c1 c2 c3 c4
    refine (fit_any p key _ hU _).mono ?_
    rw [HE.out.1, HF.out _ (by omega)]
    rintro e w6 ⟨rfl, hc⟩
    replace hbr := hbr.trans (hc.mono (Nat.le_of_lt P0.lt))
    replace P0 := P0.keep hc
    clear hc
    obtain ⟨c0, c1, c2, c3, c4⟩ := P0.facts
    go_wp2_with fail
    clear c0 c1 c2 c3 c4
    refine (fit_any p key _ hU _).mono ?_
    rw [HE.out.2.1, HF.out _ (by omega)]
    rintro e w7 ⟨rfl, hc⟩
    replace hbr := hbr.trans (hc.mono (Nat.le_of_lt P0.lt))
    replace P0 := P0.keep hc
    clear hc
    obtain ⟨c0, c1, c2, c3, c4⟩ := P0.facts
    go_wp2_with fail
    clear c0 c1 c2 c3 c4
    refine (fit_any p key _ hU _).mono ?_
    rw [HE.out.2.2, HF.out _ (by omega)]
    rintro e w8 ⟨rfl, hc⟩
    replace hbr := hbr.trans (hc.mono (Nat.le_of_lt P0.lt))
    replace P0 := P0.keep hc
    clear hc
    go_wp2_with fail
    go_ret
    exact ⟨rfl, hB ▸ hbr⟩
end Go.Proofs.Ytejaiaoiceknlaa
