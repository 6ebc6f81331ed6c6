import Derived.Test.YtejaiaoiceknlaaB14
namespace Go.Proofs.Ytejaiaoiceknlaa
open Go.RowKit Go.Shelf
attribute [local go_sem] Oper.semAt_some

set_option maxRecDepth 100000 in
set_option maxHeartbeats 4000000 in
theorem totals_b_neg (p : Bo.Plan) (key left seconds : Int) (hU : Bo.U key) (j : Nat) (hj : j < 60) (hj60 : (j : Int) + 1 ≤ 60) (hs : seconds < 0) (hp : Bo.may p = true) (w : World) :
    Calls Try.prog 3 #[planV p, .int .u64 key, .int .i64 ((j : Int) + 1), .int .i64 left, .int .i64 seconds] w fun e w' => e = .returned (.bool true) ∧ Below w.heap.size w w' := by
  have T := tot_new w p left
  have hb0 := Below.al (Below.al (Below.al (Below.refl w.heap.size w) (.cells #[.int .i64 p.base, .int .i64 p.cap, .int .i64 p.factor, .int .i64 p.spread, .int .u64 p.seed] 24)) (.cells #[.int .i64 left] 3)) (.cells #[.bool false] 4)
  obtain ⟨b, hB⟩ : ∃ b, w.heap.size = b := ⟨_, rfl⟩
  refine calls_marks Try.func3 rfl ?_
  simp only [Try.ntmps3, List.size_toArray, List.length_cons, List.length_nil, Nat.reduceAdd, Nat.reduceSub, Array.replicate_succ, Array.replicate_zero, List.push_toArray, List.append_toArray, List.nil_append, List.cons_append]
  unfold planV
  go_wp2_with fail
  rw [hB] at T hb0
  generalize ((w.alloc (.cells #[.int .i64 p.base, .int .i64 p.cap, .int .i64 p.factor, .int .i64 p.spread, .int .u64 p.seed] 24)).alloc (.cells #[.int .i64 left] 3)).alloc (.cells #[.bool false] 4) = W0 at *
  refine (known_any _).mono ?_
  rintro e w1 ⟨rfl, hc⟩
  replace hb0 := hb0.trans (hc.mono (by have := T.lt; omega))
  replace T := T.keep hc
  clear hc
  obtain ⟨c0, c1, c2, c3, c4⟩ := T.plan.facts
  have cl := T.left.cell
  have cr := T.res.cell
  have fr := T.res.froz
  go_wp2_with fail
  have Q := (PlanAt.new w1 26 p).keep (Below.al (Below.refl _ _) (.cells #[.slice none 0 0] 27))
  have V := NumAt.mk (w1.alloc (.cells #[.int .i64 p.base, .int .i64 p.cap, .int .i64 p.factor, .int .i64 p.spread, .int .u64 p.seed] 26)) 27 (.slice none 0 0) (w1.heap.size + 1) (by simp)
  have hal := Below.al (Below.al (Below.refl w1.heap.size w1) (.cells #[.int .i64 p.base, .int .i64 p.cap, .int .i64 p.factor, .int .i64 p.spread, .int .u64 p.seed] 26)) (.cells #[.slice none 0 0] 27)
  have hT2 := T.lt
  replace hb0 := hb0.trans (hal.mono (by omega))
  replace T := T.keep hal
  clear hal c0 c1 c2 c3 c4 cl cr fr
  generalize hb11 : w1.heap.size = b1 at *
  generalize (w1.alloc (.cells #[.int .i64 p.base, .int .i64 p.cap, .int .i64 p.factor, .int .i64 p.spread, .int .u64 p.seed] 26)).alloc (.cells #[.slice none 0 0] 27) = W2 at *
  have O0 : OwnI (b1 + 1 + 1) W2 (.slice none 0 0) [] := by unfold OwnI; exact World.ownsRow_nil _ (b1 + 1 + 1) 2 1
  go_loopw [12, 14] (fun a kk wr => ∃ (k : Nat) (v : Value), k ≤ 60 ∧ kk = .int .i64 ((k : Int) + 1) ∧ a = .int .i64 (Bo.at' p key k) ∧ Tot wr b p left ∧ PlanAt wr 26 b1 p ∧ NumAt wr (b1 + 1) 27 v ∧ OwnI (b1 + 1 + 1) wr v (ats p key k) ∧ Below b w wr) (fun _ kk _ => 61 - (intOf kk).toNat)
  case atStart => exact ⟨0, _, by omega, rfl, rfl, T, Q, V, O0, hb0⟩
  case round =>
    clear T Q V O0 hb0
    obtain ⟨k, v, hk, rfl, rfl, T, Q, V, O, hbr⟩ := hrel
    obtain ⟨d0, d1, d2, d3, d4⟩ := Q.facts
    by_cases hlt : k < 60
    · have hlt1 : (k : Int) + 1 ≤ 60 := by omega
      go_wp2_with fail
      refine (refMay_any p _).mono ?_
      rw [hp]
      rintro e w3 ⟨rfl, hc⟩
      clear d0 d1 d2 d3 d4
      replace hbr := hbr.trans (hc.mono (by have := T.lt; omega))
      replace T := T.keep hc
      replace Q := Q.keep hc
      replace O : OwnI (b1 + 1 + 1) w3 v (ats p key k) := own_keepAt O (fun j hj => hc.block j (World.ownsRow.lt O j hj).2)
      replace V := V.keep hc
      clear hc
      obtain ⟨d0, d1, d2, d3, d4⟩ := Q.facts
      have hW := refWait_any p hp key k (by omega)
      have hS := Bo.at_succ p key k
      have hu := Bo.wait_le p hp key ((k : Int) + 1) k
      have ha := Bo.at_bd p hp key k
      generalize Bo.wait p key ((k : Int) + 1) (Bo.full p (k + 1)) = u at *
      generalize hA : Bo.at' p key k = A at *
      obtain ⟨u0, u1⟩ := hu
      obtain ⟨a0, a1⟩ := ha
      have HS := Lib.hid hS
      have hau : IntKind.i64.wrap (A + u) = A + u := IntWalk.i64_in _ (by omega)
      clear hS hA
      go_wp2_with fail
      refine (hW _).mono ?_
      clear hW d0 d1 d2 d3 d4
      rintro e w4 ⟨rfl, hc⟩
      replace hbr := hbr.trans (hc.mono (by have := T.lt; omega))
      replace T := T.keep hc
      replace Q := Q.keep hc
      replace O : OwnI (b1 + 1 + 1) w4 v (ats p key k) := own_keepAt O (fun j hj => hc.block j (World.ownsRow.lt O j hj).2)
      replace V := V.keep hc
      clear hc
      have hl4 := V.lt
      have hl5 : b1 + 1 + 1 ≤ w4.heap.size := by omega
      have O' : w4.ownsRow (b1 + 1 + 1) 2 1 v k ((ats p key k).map i64v) := by have := O; unfold OwnI at this; rw [ats_len] at this; exact this
      have cv := V.cell
      have hTl := T.lt
      have hbb : b + 2 < b1 := hT2
      go_wp2_with (at_builtin; refine wpList_app1 w4 rfl _ _ 27 rfl (b1 + 1 + 1) 2 (.int .i64 0) 8 Try.underlying27 Try.info2 (by decide) rfl O' (.int .i64 (A + u)) rfl rfl rfl (by omega) hl5 ?_; intro v' w' hown' hbel'; obtain ⟨pp, cp, rfl, -, -⟩ := own_form hown'; have V' := V.keepAt hbel' (by omega); have cv' := V'.cell; have fv' := V'.froz)
      have T' := (T.keepAt hbel' (by omega)).other ⟨b1 + 1, 0, none⟩ (by simp; omega) (.slice pp (k + 1) cp)
      have Q' := (Q.keepAt hbel' (by omega)).other ⟨b1 + 1, 0, none⟩ (by simp) (.slice pp (k + 1) cp)
      have V2 := V'.set (.slice pp (k + 1) cp)
      have O2 : OwnI (b1 + 1 + 1) (w'.setCell ⟨b1 + 1, 0, none⟩ (.slice pp (k + 1) cp)) (.slice pp (k + 1) cp) (ats p key (k + 1)) := by
        have h2 := own_keepAt hown' (w' := w'.setCell ⟨b1 + 1, 0, none⟩ (.slice pp (k + 1) cp)) (fun j hj => Below.heap_setCell _ _ _ _ (by have := (World.ownsRow.lt hown' j hj).1; simp; omega))
        unfold OwnI
        rw [ats_succ, List.map_append, List.length_append, ats_len, HS.out]
        exact h2
      have hb2 := (hbr.trans (hbel'.mono (by omega))).setCell (p := ⟨b1 + 1, 0, none⟩) (by simp; omega) (.slice pp (k + 1) cp)
      exact ⟨⟨k + 1, _, by omega, by go_num, by rw [HS.out], T', Q', V2, O2, hb2⟩, by simp [intOf]; omega⟩
    · obtain rfl : k = 60 := by omega
      go_wp2_with fail
      refine (refMay_any p _).mono ?_
      rw [hp]
      rintro e w3 ⟨rfl, hc⟩
      clear d0 d1 d2 d3 d4
      replace hbr := hbr.trans (hc.mono (by have := T.lt; omega))
      replace T := T.keep hc
      replace Q := Q.keep hc
      replace O : OwnI (b1 + 1 + 1) w3 v (ats p key 60) := own_keepAt O (fun j hj => hc.block j (World.ownsRow.lt O j hj).2)
      replace V := V.keep hc
      clear hc
      have O' : w3.ownsRow (b1 + 1 + 1) 2 1 v 60 ((ats p key 60).map i64v) := by have := O; unfold OwnI at this; rw [ats_len] at this; exact this
      obtain ⟨g, cap, sp, rfl, hg0, hcap, hcap2, hrow⟩ := own_row O' (by omega)
      have G : WantAt p key w3 g := fun j hj => (row_cell hrow (by rw [List.getElem?_map, List.getElem?_eq_getElem (by rw [ats_len]; exact hj)]; simp only [Option.map_some]; rw [← ats_get p key 60 j hj]; simp [ats_len, hj])).1
      clear O O' hrow
      have hal := Below.al (Below.refl w3.heap.size w3) (.cells #[.int .i64 0] 3)
      obtain ⟨c0, c1, c2, c3, c4⟩ := (T.keep hal).plan.facts
      have K := NumAt.new w3 3 (.int .i64 0)
      go_wp2_with fail
      clear c0 c1 c2 c3 c4
      refine (all_any p key _).mono ?_
      rintro e w4 ⟨Bp, Bk, hBp, hBk, rfl, hP2, hK2, hc⟩
      replace hbr := (hbr.trans (hal.mono (by have := T.lt; omega))).trans (hc.mono (by have := (T.keep hal).lt; omega))
      replace Q := (Q.keep hal).keep hc
      have hV3 := V.lt
      replace V := (V.keep hal).keep hc
      have hgl := G.lt
      replace G := (G.keepAt hal hgl).keepAt hc (by simp; omega)
      replace K := K.keep hc
      have hT3 := T.lt
      replace T := (T.keep hal).keep hc
      clear hal hc
      generalize hb15 : w3.heap.size = b5 at *
      have hT4 := T.lt
      have hQ4 := Q.lt
      have hK4 := K.lt
      have hV4 := V.lt
      go_wp2_with fail
      have hN : allN p = 1000 := by unfold allN; rw [hp]; rfl
      refine wp_rangeFunc_N (gf := 21) (lb := #[.pointer (some ⟨Bp, 0, none⟩), .pointer (some ⟨Bk, 0, none⟩)]) rfl (enters_of Try.func21 (by kernel_rfl) rfl)
        (all_seq 8 (by omega) p key hU Bp Bk (fun k => k = b5) _ (by simp at hBp; omega) (by simp at hBk; omega) hP2 hK2) (fun k hk => by omega) (fun _ => rfl)
        (fun i W => i < 60 ∧ (i = 0 ∨ (i : Int) < left) ∧ Tot W b p left ∧ PlanAt W 26 b1 p ∧ NumAt W (b1 + 1) 27 (.slice (some ⟨g, 0, none⟩) 60 cap) ∧ WantAt p key W g ∧ NumAt W b5 3 (.int .i64 i) ∧ Below b w W)
        (fun c k W => ∃ i, k = i + 1 ∧ c = .exit 2 ∧ i < 60 ∧ (i = 0 ∨ (i : Int) < left) ∧ (left ≤ (i : Int) + 1 ∨ i = 59) ∧ Tot W b p left ∧ PlanAt W 26 b1 p ∧ NumAt W (b1 + 1) 27 (.slice (some ⟨g, 0, none⟩) 60 cap) ∧ WantAt p key W g ∧ NumAt W b5 3 (.int .i64 ((i : Int) + 1)) ∧ Below b w W)
        (fun s A B hs hb => by obtain ⟨h1, h2, T, Q, V, G, K, hbr⟩ := hs; exact ⟨h1, h2, T.keepAt hb (by omega), Q.keepAt hb (by omega), V.keepAt hb (by omega), G.keepAt hb (by omega), K.keepAt hb (by omega), hbr.trans (hb.mono (by omega))⟩)
        (fun c s A B hs hb => by obtain ⟨i, h0, h1, h2, h3, h4, T, Q, V, G, K, hbr⟩ := hs; exact ⟨i, h0, h1, h2, h3, h4, T.keepAt hb (by omega), Q.keepAt hb (by omega), V.keepAt hb (by omega), G.keepAt hb (by omega), K.keepAt hb (by omega), hbr.trans (hb.mono (by omega))⟩)
        ⟨by omega, .inl rfl, T, Q, V, G, K, hbr⟩ ?a1 ?assign ?body ?done ?stop
      case assign =>
        intro l k W K hK
        have HK := Lib.hid hK
        clear hK
        simp only [allEnc]
        gi_wp2
        exact HK.out
      case body =>
        clear T Q V G K hbr
        rintro l i W hkN ⟨hi, hil, T, Q, V, G, K, hbr⟩ hzW
        have ck := K.cell
        have fk := K.froz
        have cv := V.cell
        have cg := G i hi
        have K2 := K.set (.int .i64 ((i : Int) + 1))
        have T2 := T.other ⟨b5, 0, none⟩ (by simp; omega) (.int .i64 ((i : Int) + 1))
        have ck2 := K2.cell
        have cl2 := T2.left.cell
        have Q2 := Q.other ⟨b5, 0, none⟩ (by simp; omega) (.int .i64 ((i : Int) + 1))
        have V2 := V.other ⟨b5, 0, none⟩ (by simp; omega) (.int .i64 ((i : Int) + 1))
        have G2 := G.other ⟨b5, 0, none⟩ (by simp; omega) (.int .i64 ((i : Int) + 1))
        have hb2 := hbr.setCell (p := ⟨b5, 0, none⟩) (by simp; omega) (.int .i64 ((i : Int) + 1))
        have hO : Off (fun k => k = b5) W (W.setCell ⟨b5, 0, none⟩ (.int .i64 ((i : Int) + 1))) := (Off.refl (fun k => k = b5) W).setCell (a := ⟨b5, 0, none⟩) rfl _
        have HIL := Lib.hid hil
        have hi60 : (i : Int) < 60 := by omega
        generalize Bo.at' p key (i + 1) = A at *
        clear hil
        by_cases h1 : left ≤ (i : Int) + 1
        · gi_wp2
          exact ⟨hO, i, rfl, rfl, hi, HIL.out, .inl h1, T2, Q2, V2, G2, K2, hb2⟩
        · by_cases h2 : i = 59
          · have h3 : ((i : Int) + 1 == 60) = true := by simp; omega
            have H2 := Lib.hid h2
            clear h2
            gi_wp2
            exact ⟨hO, i, rfl, rfl, hi, HIL.out, .inr H2.out, T2, Q2, V2, G2, K2, hb2⟩
          · have h3 : ((i : Int) + 1 == 60) = false := beq_false_of_ne (by omega)
            gi_wp2
            exact ⟨hO, by omega, .inr (by omega), T2, Q2, V2, G2, by simpa using K2, hb2⟩
      case done =>
        clear T Q V G K hbr
        rintro D W hD ⟨hi, -⟩ hK
        rw [hN] at hi
        omega
      case stop =>
        clear T Q V G K hbr
        rintro D c k W hD hkN ⟨i, hki, rfl, hi, hil, hir, T, Q, V, G, K, hbr⟩ hK
        clear hki hkN
        have hleft : (left < 1 ∧ left < 60 ∧ ((i : Int) + 1 != 1) = false ∧ True) ∨ (¬ left < 1 ∧ left ≤ 1 ∧ ((i : Int) + 1 != left) = false ∧ ((i : Int) + 1 != 1) = false) ∨ (1 < left ∧ ¬ 60 < left ∧ ((i : Int) + 1 != left) = false ∧ True) ∨ (1 < left ∧ 60 < left ∧ ((i : Int) + 1 != 60) = false ∧ True) := by
          by_cases h1 : left < 1
          · left; exact ⟨h1, by omega, by simp; omega, trivial⟩
          · right
            by_cases h2 : left ≤ 1
            · left; exact ⟨h1, h2, by simp; omega, by simp; omega⟩
            · right
              by_cases h3 : 60 < left
              · right; exact ⟨by omega, h3, by simp; omega, trivial⟩
              · left; exact ⟨by omega, h3, by simp; omega, trivial⟩
        have hi60 : (i : Int) < 60 := by omega
        clear hil hir
        have hbn : badN p ((j : Int) + 1) = 0 := (bad_0 p _).2 ⟨hp, by omega, by omega⟩
        have HV := Lib.hid (And.intro (show totalV p key ((j : Int) + 1) = Bo.at' p key (j + 1) from by unfold totalV; rw [if_pos hbn]; rfl) hbn)
        clear hbn
        have HS := Lib.hid (And.intro (show fitV p key seconds = 0 from by unfold fitV; rw [if_neg (by omega)]) (And.intro (show fitE p seconds = 2 from by unfold fitE; rw [if_neg (by omega)]) trivial))
        obtain ⟨c0, c1, c2, c3, c4⟩ := T.plan.facts
        go_wp2_with fail
        clear c0 c1 c2 c3 c4
        refine (total_any p key _ hU _).mono ?_
        rw [HV.out.1, HV.out.2]
        rintro e w5 ⟨rfl, hc⟩
        replace hbr := hbr.trans (hc.mono (by have := T.lt; omega))
        replace G := G.keepAt hc G.lt
        replace T := T.keep hc
        replace Q := Q.keep hc
        replace V := V.keep hc
        replace K := K.keep hc
        replace hK := (hc.block D (Array.getElem?_eq_some_iff.1 hK).1).trans hK
        clear hc
        obtain ⟨c0, c1, c2, c3, c4⟩ := T.plan.facts
        go_wp2_with fail
        clear c0 c1 c2 c3 c4
        refine (fit_any p key _ hU _).mono ?_
        rw [HS.out.1, HS.out.2.1]
        rintro e w6 ⟨rfl, hc⟩
        replace hbr := hbr.trans (hc.mono (by have := T.lt; omega))
        replace G := G.keepAt hc G.lt
        replace T := T.keep hc
        replace Q := Q.keep hc
        replace V := V.keep hc
        replace K := K.keep hc
        replace hK := (hc.block D (Array.getElem?_eq_some_iff.1 hK).1).trans hK
        clear hc
        obtain ⟨d0, d1, d2, d3, d4⟩ := Q.facts
        go_wp2_with fail
        clear d0 d1 d2 d3 d4
        refine (refMay_any p _).mono ?_
        rw [hp]
        rintro e w7 ⟨rfl, hc⟩
        replace hbr := hbr.trans (hc.mono (by have := T.lt; omega))
        replace G := G.keepAt hc G.lt
        replace T := T.keep hc
        replace Q := Q.keep hc
        replace V := V.keep hc
        replace K := K.keep hc
        replace hK := (hc.block D (Array.getElem?_eq_some_iff.1 hK).1).trans hK
        clear hc
        have ck := K.cell
        have cl := T.left.cell
        have cr := T.res.cell
        have fr := T.res.froz
        have cv := V.cell
        have cgj := G j hj
        generalize Bo.at' p key (j + 1) = tj at *
        rcases hleft with ⟨x1, x2, x3, x4⟩ | ⟨x1, x2, x3, x4⟩ | ⟨x1, x2, x3, x4⟩ | ⟨x1, x2, x3, x4⟩
        all_goals
          go_wp2_with fail
          have R := T.res.set (.bool true)
          have hbf := hbr.setCell (p := ⟨b + 1 + 1, 0, none⟩) (by simp; omega) (.bool true)
          refine ⟨by simp, .inl ⟨_, _, rfl, run_takeDeferred (w := w7.setCell ⟨b + 1 + 1, 0, none⟩ (.bool true)) (by rw [Below.heap_setCell _ _ _ _ (by simp; omega)]; exact hK), ?_⟩⟩
          have hbD := Below.putObj (Below.refl w4.heap.size (w7.setCell ⟨b + 1 + 1, 0, none⟩ (.bool true))) hD (.deferred none)
          have m6 := (R.keepAt hbD (by omega)).cell
          refine ⟨.bool true, ?_, rfl, hB ▸ (hbf.trans (hbD.mono (by omega)))⟩
          simp [results, Try.results3, go_sem, m6]
set_option maxRecDepth 100000 in
set_option maxHeartbeats 4000000 in
theorem totals_b_pos (p : Bo.Plan) (key left seconds : Int) (hU : Bo.U key) (j : Nat) (hj : j < 60) (hj60 : (j : Int) + 1 ≤ 60) (hs : ¬ seconds < 0) (hp : Bo.may p = true) (w : World) :
    Calls Try.prog 3 #[planV p, .int .u64 key, .int .i64 ((j : Int) + 1), .int .i64 left, .int .i64 seconds] w fun e w' => e = .returned (.bool true) ∧ Below w.heap.size w w' := by
  have T := tot_new w p left
  have hb0 := Below.al (Below.al (Below.al (Below.refl w.heap.size w) (.cells #[.int .i64 p.base, .int .i64 p.cap, .int .i64 p.factor, .int .i64 p.spread, .int .u64 p.seed] 24)) (.cells #[.int .i64 left] 3)) (.cells #[.bool false] 4)
  obtain ⟨b, hB⟩ : ∃ b, w.heap.size = b := ⟨_, rfl⟩
  refine calls_marks Try.func3 rfl ?_
  simp only [Try.ntmps3, List.size_toArray, List.length_cons, List.length_nil, Nat.reduceAdd, Nat.reduceSub, Array.replicate_succ, Array.replicate_zero, List.push_toArray, List.append_toArray, List.nil_append, List.cons_append]
  unfold planV
  go_wp2_with fail
  rw [hB] at T hb0
  generalize ((w.alloc (.cells #[.int .i64 p.base, .int .i64 p.cap, .int .i64 p.factor, .int .i64 p.spread, .int .u64 p.seed] 24)).alloc (.cells #[.int .i64 left] 3)).alloc (.cells #[.bool false] 4) = W0 at *
  refine (known_any _).mono ?_
  rintro e w1 ⟨rfl, hc⟩
  replace hb0 := hb0.trans (hc.mono (by have := T.lt; omega))
  replace T := T.keep hc
  clear hc
  obtain ⟨c0, c1, c2, c3, c4⟩ := T.plan.facts
  have cl := T.left.cell
  have cr := T.res.cell
  have fr := T.res.froz
  go_wp2_with fail
  have Q := (PlanAt.new w1 26 p).keep (Below.al (Below.refl _ _) (.cells #[.slice none 0 0] 27))
  have V := NumAt.mk (w1.alloc (.cells #[.int .i64 p.base, .int .i64 p.cap, .int .i64 p.factor, .int .i64 p.spread, .int .u64 p.seed] 26)) 27 (.slice none 0 0) (w1.heap.size + 1) (by simp)
  have hal := Below.al (Below.al (Below.refl w1.heap.size w1) (.cells #[.int .i64 p.base, .int .i64 p.cap, .int .i64 p.factor, .int .i64 p.spread, .int .u64 p.seed] 26)) (.cells #[.slice none 0 0] 27)
  have hT2 := T.lt
  replace hb0 := hb0.trans (hal.mono (by omega))
  replace T := T.keep hal
  clear hal c0 c1 c2 c3 c4 cl cr fr
  generalize hb11 : w1.heap.size = b1 at *
  generalize (w1.alloc (.cells #[.int .i64 p.base, .int .i64 p.cap, .int .i64 p.factor, .int .i64 p.spread, .int .u64 p.seed] 26)).alloc (.cells #[.slice none 0 0] 27) = W2 at *
  have O0 : OwnI (b1 + 1 + 1) W2 (.slice none 0 0) [] := by unfold OwnI; exact World.ownsRow_nil _ (b1 + 1 + 1) 2 1
  go_loopw [12, 14] (fun a kk wr => ∃ (k : Nat) (v : Value), k ≤ 60 ∧ kk = .int .i64 ((k : Int) + 1) ∧ a = .int .i64 (Bo.at' p key k) ∧ Tot wr b p left ∧ PlanAt wr 26 b1 p ∧ NumAt wr (b1 + 1) 27 v ∧ OwnI (b1 + 1 + 1) wr v (ats p key k) ∧ Below b w wr) (fun _ kk _ => 61 - (intOf kk).toNat)
  case atStart => exact ⟨0, _, by omega, rfl, rfl, T, Q, V, O0, hb0⟩
  case round =>
    clear T Q V O0 hb0
    obtain ⟨k, v, hk, rfl, rfl, T, Q, V, O, hbr⟩ := hrel
    obtain ⟨d0, d1, d2, d3, d4⟩ := Q.facts
    by_cases hlt : k < 60
    · have hlt1 : (k : Int) + 1 ≤ 60 := by omega
      go_wp2_with fail
      refine (refMay_any p _).mono ?_
      rw [hp]
      rintro e w3 ⟨rfl, hc⟩
      clear d0 d1 d2 d3 d4
      replace hbr := hbr.trans (hc.mono (by have := T.lt; omega))
      replace T := T.keep hc
      replace Q := Q.keep hc
      replace O : OwnI (b1 + 1 + 1) w3 v (ats p key k) := own_keepAt O (fun j hj => hc.block j (World.ownsRow.lt O j hj).2)
      replace V := V.keep hc
      clear hc
      obtain ⟨d0, d1, d2, d3, d4⟩ := Q.facts
      have hW := refWait_any p hp key k (by omega)
      have hS := Bo.at_succ p key k
      have hu := Bo.wait_le p hp key ((k : Int) + 1) k
      have ha := Bo.at_bd p hp key k
      generalize Bo.wait p key ((k : Int) + 1) (Bo.full p (k + 1)) = u at *
      generalize hA : Bo.at' p key k = A at *
      obtain ⟨u0, u1⟩ := hu
      obtain ⟨a0, a1⟩ := ha
      have HS := Lib.hid hS
      have hau : IntKind.i64.wrap (A + u) = A + u := IntWalk.i64_in _ (by omega)
      clear hS hA
      go_wp2_with fail
      refine (hW _).mono ?_
      clear hW d0 d1 d2 d3 d4
      rintro e w4 ⟨rfl, hc⟩
      replace hbr := hbr.trans (hc.mono (by have := T.lt; omega))
      replace T := T.keep hc
      replace Q := Q.keep hc
      replace O : OwnI (b1 + 1 + 1) w4 v (ats p key k) := own_keepAt O (fun j hj => hc.block j (World.ownsRow.lt O j hj).2)
      replace V := V.keep hc
      clear hc
      have hl4 := V.lt
      have hl5 : b1 + 1 + 1 ≤ w4.heap.size := by omega
      have O' : w4.ownsRow (b1 + 1 + 1) 2 1 v k ((ats p key k).map i64v) := by have := O; unfold OwnI at this; rw [ats_len] at this; exact this
      have cv := V.cell
      have hTl := T.lt
      have hbb : b + 2 < b1 := hT2
      go_wp2_with (at_builtin; refine wpList_app1 w4 rfl _ _ 27 rfl (b1 + 1 + 1) 2 (.int .i64 0) 8 Try.underlying27 Try.info2 (by decide) rfl O' (.int .i64 (A + u)) rfl rfl rfl (by omega) hl5 ?_; intro v' w' hown' hbel'; obtain ⟨pp, cp, rfl, -, -⟩ := own_form hown'; have V' := V.keepAt hbel' (by omega); have cv' := V'.cell; have fv' := V'.froz)
      have T' := (T.keepAt hbel' (by omega)).other ⟨b1 + 1, 0, none⟩ (by simp; omega) (.slice pp (k + 1) cp)
      have Q' := (Q.keepAt hbel' (by omega)).other ⟨b1 + 1, 0, none⟩ (by simp) (.slice pp (k + 1) cp)
      have V2 := V'.set (.slice pp (k + 1) cp)
      have O2 : OwnI (b1 + 1 + 1) (w'.setCell ⟨b1 + 1, 0, none⟩ (.slice pp (k + 1) cp)) (.slice pp (k + 1) cp) (ats p key (k + 1)) := by
        have h2 := own_keepAt hown' (w' := w'.setCell ⟨b1 + 1, 0, none⟩ (.slice pp (k + 1) cp)) (fun j hj => Below.heap_setCell _ _ _ _ (by have := (World.ownsRow.lt hown' j hj).1; simp; omega))
        unfold OwnI
        rw [ats_succ, List.map_append, List.length_append, ats_len, HS.out]
        exact h2
      have hb2 := (hbr.trans (hbel'.mono (by omega))).setCell (p := ⟨b1 + 1, 0, none⟩) (by simp; omega) (.slice pp (k + 1) cp)
      exact ⟨⟨k + 1, _, by omega, by go_num, by rw [HS.out], T', Q', V2, O2, hb2⟩, by simp [intOf]; omega⟩
    · obtain rfl : k = 60 := by omega
      go_wp2_with fail
      refine (refMay_any p _).mono ?_
      rw [hp]
      rintro e w3 ⟨rfl, hc⟩
      clear d0 d1 d2 d3 d4
      replace hbr := hbr.trans (hc.mono (by have := T.lt; omega))
      replace T := T.keep hc
      replace Q := Q.keep hc
      replace O : OwnI (b1 + 1 + 1) w3 v (ats p key 60) := own_keepAt O (fun j hj => hc.block j (World.ownsRow.lt O j hj).2)
      replace V := V.keep hc
      clear hc
      have O' : w3.ownsRow (b1 + 1 + 1) 2 1 v 60 ((ats p key 60).map i64v) := by have := O; unfold OwnI at this; rw [ats_len] at this; exact this
      obtain ⟨g, cap, sp, rfl, hg0, hcap, hcap2, hrow⟩ := own_row O' (by omega)
      have G : WantAt p key w3 g := fun j hj => (row_cell hrow (by rw [List.getElem?_map, List.getElem?_eq_getElem (by rw [ats_len]; exact hj)]; simp only [Option.map_some]; rw [← ats_get p key 60 j hj]; simp [ats_len, hj])).1
      clear O O' hrow
      have hal := Below.al (Below.refl w3.heap.size w3) (.cells #[.int .i64 0] 3)
      obtain ⟨c0, c1, c2, c3, c4⟩ := (T.keep hal).plan.facts
      have K := NumAt.new w3 3 (.int .i64 0)
      go_wp2_with fail
      clear c0 c1 c2 c3 c4
      refine (all_any p key _).mono ?_
      rintro e w4 ⟨Bp, Bk, hBp, hBk, rfl, hP2, hK2, hc⟩
      replace hbr := (hbr.trans (hal.mono (by have := T.lt; omega))).trans (hc.mono (by have := (T.keep hal).lt; omega))
      replace Q := (Q.keep hal).keep hc
      have hV3 := V.lt
      replace V := (V.keep hal).keep hc
      have hgl := G.lt
      replace G := (G.keepAt hal hgl).keepAt hc (by simp; omega)
      replace K := K.keep hc
      have hT3 := T.lt
      replace T := (T.keep hal).keep hc
      clear hal hc
      generalize hb15 : w3.heap.size = b5 at *
      have hT4 := T.lt
      have hQ4 := Q.lt
      have hK4 := K.lt
      have hV4 := V.lt
      go_wp2_with fail
      have hN : allN p = 1000 := by unfold allN; rw [hp]; rfl
      refine wp_rangeFunc_N (gf := 21) (lb := #[.pointer (some ⟨Bp, 0, none⟩), .pointer (some ⟨Bk, 0, none⟩)]) rfl (enters_of Try.func21 (by kernel_rfl) rfl)
        (all_seq 8 (by omega) p key hU Bp Bk (fun k => k = b5) _ (by simp at hBp; omega) (by simp at hBk; omega) hP2 hK2) (fun k hk => by omega) (fun _ => rfl)
        (fun i W => i < 60 ∧ (i = 0 ∨ (i : Int) < left) ∧ Tot W b p left ∧ PlanAt W 26 b1 p ∧ NumAt W (b1 + 1) 27 (.slice (some ⟨g, 0, none⟩) 60 cap) ∧ WantAt p key W g ∧ NumAt W b5 3 (.int .i64 i) ∧ Below b w W)
        (fun c k W => ∃ i, k = i + 1 ∧ c = .exit 2 ∧ i < 60 ∧ (i = 0 ∨ (i : Int) < left) ∧ (left ≤ (i : Int) + 1 ∨ i = 59) ∧ Tot W b p left ∧ PlanAt W 26 b1 p ∧ NumAt W (b1 + 1) 27 (.slice (some ⟨g, 0, none⟩) 60 cap) ∧ WantAt p key W g ∧ NumAt W b5 3 (.int .i64 ((i : Int) + 1)) ∧ Below b w W)
        (fun s A B hs hb => by obtain ⟨h1, h2, T, Q, V, G, K, hbr⟩ := hs; exact ⟨h1, h2, T.keepAt hb (by omega), Q.keepAt hb (by omega), V.keepAt hb (by omega), G.keepAt hb (by omega), K.keepAt hb (by omega), hbr.trans (hb.mono (by omega))⟩)
        (fun c s A B hs hb => by obtain ⟨i, h0, h1, h2, h3, h4, T, Q, V, G, K, hbr⟩ := hs; exact ⟨i, h0, h1, h2, h3, h4, T.keepAt hb (by omega), Q.keepAt hb (by omega), V.keepAt hb (by omega), G.keepAt hb (by omega), K.keepAt hb (by omega), hbr.trans (hb.mono (by omega))⟩)
        ⟨by omega, .inl rfl, T, Q, V, G, K, hbr⟩ ?a1 ?assign ?body ?done ?stop
      case assign =>
        intro l k W K hK
        have HK := Lib.hid hK
        clear hK
        simp only [allEnc]
        gi_wp2
        exact HK.out
      case body =>
        clear T Q V G K hbr
        rintro l i W hkN ⟨hi, hil, T, Q, V, G, K, hbr⟩ hzW
        have ck := K.cell
        have fk := K.froz
        have cv := V.cell
        have cg := G i hi
        have K2 := K.set (.int .i64 ((i : Int) + 1))
        have T2 := T.other ⟨b5, 0, none⟩ (by simp; omega) (.int .i64 ((i : Int) + 1))
        have ck2 := K2.cell
        have cl2 := T2.left.cell
        have Q2 := Q.other ⟨b5, 0, none⟩ (by simp; omega) (.int .i64 ((i : Int) + 1))
        have V2 := V.other ⟨b5, 0, none⟩ (by simp; omega) (.int .i64 ((i : Int) + 1))
        have G2 := G.other ⟨b5, 0, none⟩ (by simp; omega) (.int .i64 ((i : Int) + 1))
        have hb2 := hbr.setCell (p := ⟨b5, 0, none⟩) (by simp; omega) (.int .i64 ((i : Int) + 1))
        have hO : Off (fun k => k = b5) W (W.setCell ⟨b5, 0, none⟩ (.int .i64 ((i : Int) + 1))) := (Off.refl (fun k => k = b5) W).setCell (a := ⟨b5, 0, none⟩) rfl _
        have HIL := Lib.hid hil
        have hi60 : (i : Int) < 60 := by omega
        generalize Bo.at' p key (i + 1) = A at *
        clear hil
        by_cases h1 : left ≤ (i : Int) + 1
        · gi_wp2
          exact ⟨hO, i, rfl, rfl, hi, HIL.out, .inl h1, T2, Q2, V2, G2, K2, hb2⟩
        · by_cases h2 : i = 59
          · have h3 : ((i : Int) + 1 == 60) = true := by simp; omega
            have H2 := Lib.hid h2
            clear h2
            gi_wp2
            exact ⟨hO, i, rfl, rfl, hi, HIL.out, .inr H2.out, T2, Q2, V2, G2, K2, hb2⟩
          · have h3 : ((i : Int) + 1 == 60) = false := beq_false_of_ne (by omega)
            gi_wp2
            exact ⟨hO, by omega, .inr (by omega), T2, Q2, V2, G2, by simpa using K2, hb2⟩
      case done =>
        clear T Q V G K hbr
        rintro D W hD ⟨hi, -⟩ hK
        rw [hN] at hi
        omega
      case stop =>
        clear T Q V G K hbr
        rintro D c k W hD hkN ⟨i, hki, rfl, hi, hil, hir, T, Q, V, G, K, hbr⟩ hK
        clear hki hkN
        have hleft : (left < 1 ∧ left < 60 ∧ ((i : Int) + 1 != 1) = false ∧ True) ∨ (¬ left < 1 ∧ left ≤ 1 ∧ ((i : Int) + 1 != left) = false ∧ ((i : Int) + 1 != 1) = false) ∨ (1 < left ∧ ¬ 60 < left ∧ ((i : Int) + 1 != left) = false ∧ True) ∨ (1 < left ∧ 60 < left ∧ ((i : Int) + 1 != 60) = false ∧ True) := by
          by_cases h1 : left < 1
          · left; exact ⟨h1, by omega, by simp; omega, trivial⟩
          · right
            by_cases h2 : left ≤ 1
            · left; exact ⟨h1, h2, by simp; omega, by simp; omega⟩
            · right
              by_cases h3 : 60 < left
              · right; exact ⟨by omega, h3, by simp; omega, trivial⟩
              · left; exact ⟨by omega, h3, by simp; omega, trivial⟩
        have hi60 : (i : Int) < 60 := by omega
        clear hil hir
        have hbn : badN p ((j : Int) + 1) = 0 := (bad_0 p _).2 ⟨hp, by omega, by omega⟩
        have HV := Lib.hid (And.intro (show totalV p key ((j : Int) + 1) = Bo.at' p key (j + 1) from by unfold totalV; rw [if_pos hbn]; rfl) hbn)
        clear hbn
        obtain ⟨F, hFF⟩ : ∃ F, Bo.fit p key seconds 1000 = F := ⟨_, rfl⟩
        have HS := Lib.hid (And.intro (show fitV p key seconds = (F : Int) from by unfold fitV; rw [if_pos ⟨hp, by omega⟩, hFF]) (And.intro (show fitE p seconds = 0 from by unfold fitE; rw [if_pos ⟨hp, by omega⟩]) (show ∀ j, 1 ≤ j → j ≤ 1000 → (Bo.at' p key j ≤ seconds ↔ j ≤ F) from hFF ▸ (Bo.fit_spec p hp key seconds 1000).2)))
        clear hFF
        obtain ⟨c0, c1, c2, c3, c4⟩ := T.plan.facts
        go_wp2_with fail
        clear c0 c1 c2 c3 c4
        refine (total_any p key _ hU _).mono ?_
        rw [HV.out.1, HV.out.2]
        rintro e w5 ⟨rfl, hc⟩
        replace hbr := hbr.trans (hc.mono (by have := T.lt; omega))
        replace G := G.keepAt hc G.lt
        replace T := T.keep hc
        replace Q := Q.keep hc
        replace V := V.keep hc
        replace K := K.keep hc
        replace hK := (hc.block D (Array.getElem?_eq_some_iff.1 hK).1).trans hK
        clear hc
        obtain ⟨c0, c1, c2, c3, c4⟩ := T.plan.facts
        go_wp2_with fail
        clear c0 c1 c2 c3 c4
        refine (fit_any p key _ hU _).mono ?_
        rw [HS.out.1, HS.out.2.1]
        rintro e w6 ⟨rfl, hc⟩
        replace hbr := hbr.trans (hc.mono (by have := T.lt; omega))
        replace G := G.keepAt hc G.lt
        replace T := T.keep hc
        replace Q := Q.keep hc
        replace V := V.keep hc
        replace K := K.keep hc
        replace hK := (hc.block D (Array.getElem?_eq_some_iff.1 hK).1).trans hK
        clear hc
        obtain ⟨d0, d1, d2, d3, d4⟩ := Q.facts
        go_wp2_with fail
        clear d0 d1 d2 d3 d4
        refine (refMay_any p _).mono ?_
        rw [hp]
        rintro e w7 ⟨rfl, hc⟩
        replace hbr := hbr.trans (hc.mono (by have := T.lt; omega))
        replace G := G.keepAt hc G.lt
        replace T := T.keep hc
        replace Q := Q.keep hc
        replace V := V.keep hc
        replace K := K.keep hc
        replace hK := (hc.block D (Array.getElem?_eq_some_iff.1 hK).1).trans hK
        clear hc
        have ck := K.cell
        have cl := T.left.cell
        have cr := T.res.cell
        have fr := T.res.froz
        have cv := V.cell
        have cgj := G j hj
        generalize Bo.at' p key (j + 1) = tj at *
        rcases hleft with ⟨x1, x2, x3, x4⟩ | ⟨x1, x2, x3, x4⟩ | ⟨x1, x2, x3, x4⟩ | ⟨x1, x2, x3, x4⟩
        all_goals
          go_wp2_with fail
          go_loop [22, 157] (fun m ii => ∃ k : Nat, k ≤ 60 ∧ ii = .int .i64 k ∧ m = .int .i64 (Nat.min F k : Nat)) (fun _ ii => 60 - (intOf ii).toNat)
          case atStart => exact ⟨0, by omega, rfl, by simp⟩
          case round =>
            obtain ⟨k, hk, rfl, rfl⟩ := hrel
            by_cases hlt : k < 60
            · have hlt' : (k : Int) < 60 := by omega
              have cg := G k hlt
              have hsp := HS.out.2.2 (k + 1) (by omega) (by omega)
              generalize Bo.at' p key (k + 1) = A at *
              have hmm : (Nat.min F k : Nat) ≤ 60 := by have := Nat.min_le_right F k; show min F k ≤ 60; omega
              by_cases hA : A ≤ seconds
              · have hm1 : Nat.min F (k + 1) = Nat.min F k + 1 := by have := hsp.1 hA; show min F (k + 1) = min F k + 1; omega
                have HM := Lib.hid hm1
                clear hm1 hsp
                generalize Nat.min F k = mm at *
                go_wp2_with fail
                go_round
                case rel => exact ⟨k + 1, by omega, by go_num, by rw [HM.out]; go_num⟩
                case measure => simp [intOf]; omega
              · have hm1 : Nat.min F (k + 1) = Nat.min F k := by have : ¬ (k + 1 ≤ F) := fun h => hA (hsp.2 h); show min F (k + 1) = min F k; omega
                have HM := Lib.hid hm1
                clear hm1 hsp
                generalize Nat.min F k = mm at *
                go_wp2_with fail
                go_round
                case rel => exact ⟨k + 1, by omega, by go_num, by rw [HM.out]⟩
                case measure => simp [intOf]; omega
            · obtain rfl : k = 60 := by omega
              by_cases hF : 60 ≤ F
              · have hm1 : Nat.min F 60 = 60 := by show min F 60 = 60; omega
                have hF' : (60 : Int) ≤ (F : Int) := by omega
                rw [hm1]
                go_wp2_with fail
                have R := T.res.set (.bool true)
                have hbf := hbr.setCell (p := ⟨b + 1 + 1, 0, none⟩) (by simp; omega) (.bool true)
                refine ⟨by simp, .inl ⟨_, _, rfl, run_takeDeferred (w := w7.setCell ⟨b + 1 + 1, 0, none⟩ (.bool true)) (by rw [Below.heap_setCell _ _ _ _ (by simp; omega)]; exact hK), ?_⟩⟩
                have hbD := Below.putObj (Below.refl w4.heap.size (w7.setCell ⟨b + 1 + 1, 0, none⟩ (.bool true))) hD (.deferred none)
                have m6 := (R.keepAt hbD (by omega)).cell
                refine ⟨.bool true, ?_, rfl, hB ▸ (hbf.trans (hbD.mono (by omega)))⟩
                simp [results, Try.results3, go_sem, m6]
              · have hm1 : Nat.min F 60 = F := by show min F 60 = F; omega
                have hF' : (F : Int) < 60 := by omega
                have hF2 : ((F : Int) == 60) = false := beq_false_of_ne (by omega)
                rw [hm1]
                go_wp2_with fail
                have R := T.res.set (.bool true)
                have hbf := hbr.setCell (p := ⟨b + 1 + 1, 0, none⟩) (by simp; omega) (.bool true)
                refine ⟨by simp, .inl ⟨_, _, rfl, run_takeDeferred (w := w7.setCell ⟨b + 1 + 1, 0, none⟩ (.bool true)) (by rw [Below.heap_setCell _ _ _ _ (by simp; omega)]; exact hK), ?_⟩⟩
                have hbD := Below.putObj (Below.refl w4.heap.size (w7.setCell ⟨b + 1 + 1, 0, none⟩ (.bool true))) hD (.deferred none)
                have m6 := (R.keepAt hbD (by omega)).cell
                refine ⟨.bool true, ?_, rfl, hB ▸ (hbf.trans (hbD.mono (by omega)))⟩
                simp [results, Try.results3, go_sem, m6]
end Go.Proofs.Ytejaiaoiceknlaa
