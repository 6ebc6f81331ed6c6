import Derived.Test.YtejaiaoiceknlaaB8
import Derived.Test.YtejaiaoiceknlaaBo3
import Derived.Deep.DeepCutAuto
namespace Go.Proofs.Ytejaiaoiceknlaa
open Go.RowKit

theorem PlanAt.mk (w : World) (t : TypeId) (p : Bo.Plan) (b : Nat) (h : b = w.heap.size) : PlanAt (w.alloc (.cells #[.int .i64 p.base, .int .i64 p.cap, .int .i64 p.factor, .int .i64 p.spread, .int .u64 p.seed] t)) t b p := by subst h; exact PlanAt.new w t p
theorem PlanAt.froz {w : World} {t : TypeId} {b : Nat} {p : Bo.Plan} (h : PlanAt w t b p) (i : Nat) : w.frozen? ⟨b, i, none⟩ = false := frozen_of_row w b i _ t h
theorem PlanAt.set0 {w : World} {t : TypeId} {b : Nat} {p : Bo.Plan} (h : PlanAt w t b p) (x : Int) : PlanAt (w.setCell ⟨b, 0, none⟩ (.int .i64 x)) t b { p with base := x } := heap_setCell_same w b 0 _ t (.int .i64 x) h
theorem PlanAt.set1 {w : World} {t : TypeId} {b : Nat} {p : Bo.Plan} (h : PlanAt w t b p) (x : Int) : PlanAt (w.setCell ⟨b, 1, none⟩ (.int .i64 x)) t b { p with cap := x } := heap_setCell_same w b 1 _ t (.int .i64 x) h
theorem PlanAt.set4 {w : World} {t : TypeId} {b : Nat} {p : Bo.Plan} (h : PlanAt w t b p) (x : Int) : PlanAt (w.setCell ⟨b, 4, none⟩ (.int .u64 x)) t b { p with seed := x } := heap_setCell_same w b 4 _ t (.int .u64 x) h
set_option maxRecDepth 100000 in
set_option maxHeartbeats 4000000 in
theorem alone_any (p : Bo.Plan) (seed base more n : Int) (hn0 : 0 ≤ n) (hn1 : n ≤ 255) (w : World) :
    Calls Try.prog 4 #[planV p, .int .u64 seed, .int .i64 base, .int .i64 more, .int .u8 n] w fun e w' => e = .returned (.bool true) ∧ Below w.heap.size w w' := by
  have P0 := PlanAt.new w 24 p
  have hb0 := Below.al (Below.refl w.heap.size w) (.cells #[.int .i64 p.base, .int .i64 p.cap, .int .i64 p.factor, .int .i64 p.spread, .int .u64 p.seed] 24)
  obtain ⟨b, hB⟩ : ∃ b, w.heap.size = b := ⟨_, rfl⟩
  unfold planV
  go_enter Try.func4, Try.ntmps4
  go_wp2_with fail
  rw [hB] at P0 hb0
  generalize w.alloc (.cells #[.int .i64 p.base, .int .i64 p.cap, .int .i64 p.factor, .int .i64 p.spread, .int .u64 p.seed] 24) = W0 at *
  refine (known_any _).mono ?_
  rintro e w1 ⟨rfl, hc⟩
  replace hb0 := hb0.trans (hc.mono (Nat.le_of_lt P0.lt))
  replace P0 := P0.keep hc
  clear hc
  go_upto_region 4 with fail
  go_cut [12, 13, 14] (fun s12 s13 s14 wx => ∃ b1 b2 b3 : Nat, s12 = .pointer (some ⟨b1, 0, none⟩) ∧ s13 = .pointer (some ⟨b2, 0, none⟩) ∧ s14 = .pointer (some ⟨b3, 0, none⟩) ∧ b < b1 ∧ b < b2 ∧ b < b3 ∧ b1 ≠ b2 ∧ b1 ≠ b3 ∧ b2 ≠ b3 ∧
    PlanAt wx 24 b1 p ∧ PlanAt wx 24 b2 p ∧ PlanAt wx 24 b3 p ∧ PlanAt wx 24 b p ∧ Below b w wx)
  case first =>
    have hF : ∀ w', Below w1.heap.size w1 w' → w'.cell? ⟨b, 0, none⟩ = some (.int .i64 p.base) ∧ w'.cell? ⟨b, 1, none⟩ = some (.int .i64 p.cap) ∧ w'.cell? ⟨b, 2, none⟩ = some (.int .i64 p.factor) ∧ w'.cell? ⟨b, 3, none⟩ = some (.int .i64 p.spread) ∧ w'.cell? ⟨b, 4, none⟩ = some (.int .u64 p.seed) := fun w' h => (P0.keep h).facts
    have e0 := fun w' h => (hF w' h).1
    have e1 := fun w' h => (hF w' h).2.1
    have e2 := fun w' h => (hF w' h).2.2.1
    have e3 := fun w' h => (hF w' h).2.2.2.1
    have e4 := fun w' h => (hF w' h).2.2.2.2
    have hlt := P0.lt
    have HP := Lib.hid P0
    clear hF P0
    go_region_held3 (fun w' => Below w1.heap.size w1 w') ((repeat (first | assumption | exact Below.refl _ _ | refine Below.drew ?_ | refine Below.al ?_ _ | refine Below.setCell ?_ (by simp; omega) _))) (fail)
    all_goals go_wp2_with fail
    all_goals go_meet
    all_goals
      have h1 := ((PlanAt.mk w1 24 p w1.heap.size rfl).keep (Below.al (Below.refl _ _) (.cells #[.int .i64 p.base, .int .i64 p.cap, .int .i64 p.factor, .int .i64 p.spread, .int .u64 p.seed] 24))).keep (Below.al (Below.refl _ _) (.cells #[.int .i64 p.base, .int .i64 p.cap, .int .i64 p.factor, .int .i64 p.spread, .int .u64 p.seed] 24))
      have h2 := (PlanAt.mk (w1.alloc (.cells #[.int .i64 p.base, .int .i64 p.cap, .int .i64 p.factor, .int .i64 p.spread, .int .u64 p.seed] 24)) 24 p (w1.heap.size + 1) (by simp)).keep (Below.al (Below.refl _ _) (.cells #[.int .i64 p.base, .int .i64 p.cap, .int .i64 p.factor, .int .i64 p.spread, .int .u64 p.seed] 24))
      have h3 := PlanAt.mk ((w1.alloc (.cells #[.int .i64 p.base, .int .i64 p.cap, .int .i64 p.factor, .int .i64 p.spread, .int .u64 p.seed] 24)).alloc (.cells #[.int .i64 p.base, .int .i64 p.cap, .int .i64 p.factor, .int .i64 p.spread, .int .u64 p.seed] 24)) 24 p (w1.heap.size + 1 + 1) (by simp)
      have hk := Below.al (Below.al (Below.al (Below.refl w1.heap.size w1) (.cells #[.int .i64 p.base, .int .i64 p.cap, .int .i64 p.factor, .int .i64 p.spread, .int .u64 p.seed] 24)) (.cells #[.int .i64 p.base, .int .i64 p.cap, .int .i64 p.factor, .int .i64 p.spread, .int .u64 p.seed] 24)) (.cells #[.int .i64 p.base, .int .i64 p.cap, .int .i64 p.factor, .int .i64 p.spread, .int .u64 p.seed] 24)
      have h0 := HP.out.keep hk
      have hkb := (hb0.trans (hk.mono (Nat.le_of_lt hlt))).drew
      exact ⟨_, _, _, rfl, rfl, rfl, by omega, by omega, by omega, by omega, by omega, by omega, by assumption, by assumption, by assumption, h0, hkb⟩
  case rest =>
    obtain ⟨b1, b2, b3, rfl, rfl, rfl, g1, g2, g3, g4, g5, g6, Q1, Q2, Q3, Q0, hbx⟩ := hcut
    clear P0 hb0
    have R1 := ((Q1.set4 seed).other ⟨b2, 1, none⟩ (by simp; omega) (.int .i64 more)).other ⟨b3, 0, none⟩ (by simp; omega) (.int .i64 base)
    have R2 := ((Q2.other ⟨b1, 4, none⟩ (by simp; omega) (.int .u64 seed)).set1 more).other ⟨b3, 0, none⟩ (by simp; omega) (.int .i64 base)
    have R3 := ((Q3.other ⟨b1, 4, none⟩ (by simp; omega) (.int .u64 seed)).other ⟨b2, 1, none⟩ (by simp; omega) (.int .i64 more)).set0 base
    have R0 := ((Q0.other ⟨b1, 4, none⟩ (by simp; omega) (.int .u64 seed)).other ⟨b2, 1, none⟩ (by simp; omega) (.int .i64 more)).other ⟨b3, 0, none⟩ (by simp; omega) (.int .i64 base)
    have hby := ((hbx.setCell (p := ⟨b1, 4, none⟩) (by simp; omega) (.int .u64 seed)).setCell (p := ⟨b2, 1, none⟩) (by simp; omega) (.int .i64 more)).setCell (p := ⟨b3, 0, none⟩) (by simp; omega) (.int .i64 base)
    have f1 := Q1.froz 4
    have f2 := Q2.froz 1
    have f3 := Q3.froz 0
    have q1 := Q1.facts.2.2.2.2
    have q2 := (Q2.other ⟨b1, 4, none⟩ (by simp; omega) (.int .u64 seed)).facts.2.1
    have q3 := ((Q3.other ⟨b1, 4, none⟩ (by simp; omega) (.int .u64 seed)).other ⟨b2, 1, none⟩ (by simp; omega) (.int .i64 more)).facts.1
    obtain ⟨c0, c1, c2, c3, c4⟩ := R0.facts
    go_wp2_with fail
    generalize ((wc.setCell ⟨b1, 4, none⟩ (.int .u64 seed)).setCell ⟨b2, 1, none⟩ (.int .i64 more)).setCell ⟨b3, 0, none⟩ (.int .i64 base) = W2 at *
    clear Q0 Q1 Q2 Q3 q1 q2 q3 f1 f2 f3 hbx c0 c1 c2 c3 c4
    cases hp : Bo.may p with
    | false =>
      refine (refMay_any p _).mono ?_
      rw [hp]
      rintro e w2 ⟨rfl, hc⟩
      replace hby := hby.trans (hc.mono (Nat.le_of_lt R0.lt))
      replace R0 := R0.keep hc
      replace R1 := R1.keep hc
      replace R2 := R2.keep hc
      replace R3 := R3.keep hc
      clear hc
      clear hp
      go_wp2_with fail
      go_ret
      exact ⟨rfl, hB ▸ hby⟩
    | true =>
      refine (refMay_any p _).mono ?_
      rw [hp]
      rintro e w2 ⟨rfl, hc⟩
      replace hby := hby.trans (hc.mono (Nat.le_of_lt R0.lt))
      replace R0 := R0.keep hc
      replace R1 := R1.keep hc
      replace R2 := R2.keep hc
      replace R3 := R3.keep hc
      clear hc
      obtain ⟨c0, c1, c2, c3, c4⟩ := R2.facts
      go_wp2_with fail
      clear c0 c1 c2 c3 c4
      cases hs : Bo.may { p with cap := more } with
      | false =>
        refine (refMay_any { p with cap := more } _).mono ?_
        rw [hs]
        rintro e w3 ⟨rfl, hc⟩
        replace hby := hby.trans (hc.mono (Nat.le_of_lt R0.lt))
        replace R0 := R0.keep hc
        replace R1 := R1.keep hc
        replace R2 := R2.keep hc
        replace R3 := R3.keep hc
        clear hc
        go_wp2_with fail
        go_ret
        exact ⟨rfl, hB ▸ hby⟩
      | true =>
        refine (refMay_any { p with cap := more } _).mono ?_
        rw [hs]
        rintro e w3 ⟨rfl, hc⟩
        replace hby := hby.trans (hc.mono (Nat.le_of_lt R0.lt))
        replace R0 := R0.keep hc
        replace R1 := R1.keep hc
        replace R2 := R2.keep hc
        replace R3 := R3.keep hc
        clear hc
        obtain ⟨c0, c1, c2, c3, c4⟩ := R3.facts
        go_wp2_with fail
        clear c0 c1 c2 c3 c4
        cases ht : Bo.may { p with base := base } with
        | false =>
          refine (refMay_any { p with base := base } _).mono ?_
          rw [ht]
          rintro e w4 ⟨rfl, hc⟩
          replace hby := hby.trans (hc.mono (Nat.le_of_lt R0.lt))
          replace R0 := R0.keep hc
          replace R1 := R1.keep hc
          replace R2 := R2.keep hc
          replace R3 := R3.keep hc
          clear hc
          go_wp2_with fail
          go_ret
          exact ⟨rfl, hB ▸ hby⟩
        | true =>
          refine (refMay_any { p with base := base } _).mono ?_
          rw [ht]
          rintro e w4 ⟨rfl, hc⟩
          replace hby := hby.trans (hc.mono (Nat.le_of_lt R0.lt))
          replace R0 := R0.keep hc
          replace R1 := R1.keep hc
          replace R2 := R2.keep hc
          replace R3 := R3.keep hc
          clear hc
          obtain ⟨c0, c1, c2, c3, c4⟩ := R0.facts
          by_cases x1 : more < p.cap
          · go_wp2_with fail
            go_ret
            exact ⟨rfl, hB ▸ hby⟩
          by_cases x2 : base < p.base
          · go_wp2_with fail
            go_ret
            exact ⟨rfl, hB ▸ hby⟩
          obtain ⟨j, hj⟩ : ∃ j : Nat, 1 + n % 100 = (j : Int) + 1 := ⟨(n % 100).toNat, by omega⟩
          have hbad : ∀ q, Bo.may q = true → badN q ((j : Int) + 1) = 0 := fun q hq => (bad_0 q _).2 ⟨hq, by omega, by omega⟩
          have hfv : ∀ q, Bo.may q = true → fullV q ((j : Int) + 1) = Bo.full q (j + 1) := fun q hq => by unfold fullV; rw [if_pos (hbad q hq)]; congr 1
          have E0 := hfv p hp
          have E1 : fullV { p with seed := seed } ((j : Int) + 1) = Bo.full p (j + 1) := (hfv _ (by rw [Bo.may_seed]; exact hp)).trans (Bo.full_seed p seed (j + 1))
          have E2 := hfv _ hs
          have E3 := hfv _ ht
          have M2 := Bo.full_mono p { p with cap := more } hp hs rfl (by show p.cap ≤ more; omega) (Int.le_refl _) j
          have M3 := Bo.full_mono p { p with base := base } hp ht rfl (Int.le_refl _) (by show p.base ≤ base; omega) j
          have HE := Lib.hid (And.intro E0 (And.intro E1 (And.intro E2 E3)))
          have HM := Lib.hid (And.intro M2 M3)
          clear hbad hfv E0 E1 E2 E3 M2 M3 hs ht hp
          go_wp2_with fail
          clear c0 c1 c2 c3 c4
          refine (full_any p _ _).mono ?_
          rintro e w5 ⟨rfl, hc⟩
          replace hby := hby.trans (hc.mono (Nat.le_of_lt R0.lt))
          replace R0 := R0.keep hc
          replace R1 := R1.keep hc
          replace R2 := R2.keep hc
          replace R3 := R3.keep hc
          obtain ⟨a0, a1, a2, a3, a4⟩ := R1.facts
          clear hc
          rw [HE.out.1]
          go_wp2_with fail
          clear a0 a1 a2 a3 a4
          refine (full_any { p with seed := seed } _ _).mono ?_
          rintro e w6 ⟨rfl, hc⟩
          replace hby := hby.trans (hc.mono (Nat.le_of_lt R0.lt))
          replace R0 := R0.keep hc
          replace R1 := R1.keep hc
          replace R2 := R2.keep hc
          replace R3 := R3.keep hc
          obtain ⟨a0, a1, a2, a3, a4⟩ := R2.facts
          clear hc
          rw [HE.out.2.1]
          go_wp2_with fail
          clear a0 a1 a2 a3 a4
          refine (full_any { p with cap := more } _ _).mono ?_
          rintro e w7 ⟨rfl, hc⟩
          replace hby := hby.trans (hc.mono (Nat.le_of_lt R0.lt))
          replace R0 := R0.keep hc
          replace R1 := R1.keep hc
          replace R2 := R2.keep hc
          replace R3 := R3.keep hc
          obtain ⟨a0, a1, a2, a3, a4⟩ := R3.facts
          clear hc
          rw [HE.out.2.2.1]
          go_wp2_with fail
          clear a0 a1 a2 a3 a4
          refine (full_any { p with base := base } _ _).mono ?_
          rintro e w8 ⟨rfl, hc⟩
          replace hby := hby.trans (hc.mono (Nat.le_of_lt R0.lt))
          replace R0 := R0.keep hc
          replace R1 := R1.keep hc
          replace R2 := R2.keep hc
          replace R3 := R3.keep hc
          obtain ⟨a0, a1, a2, a3, a4⟩ := R0.facts
          clear hc
          rw [HE.out.2.2.2]
          have m2 := HM.out.1
          have m3 := HM.out.2
          go_wp2_with fail
          go_ret
          exact ⟨rfl, hB ▸ hby⟩
end Go.Proofs.Ytejaiaoiceknlaa
