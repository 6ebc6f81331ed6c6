import Derived.Test.YtejaiaoiceknlaaB9
namespace Go.Proofs.Ytejaiaoiceknlaa
open Go.RowKit Go.Shelf
attribute [local go_sem] Oper.semAt_some

/-- what BackoffTotals has in memory: the plan, left, the result -/
structure Tot (w : World) (b : Nat) (p : Bo.Plan) (left : Int) : Prop where
  plan : PlanAt w 24 b p
  left : NumAt w (b + 1) 3 (.int .i64 left)
  res : NumAt w (b + 1 + 1) 4 (.bool false)
theorem Tot.keep {w w' : World} {b : Nat} {p : Bo.Plan} {left : Int} (h : Tot w b p left) (hb : Below w.heap.size w w') : Tot w' b p left := ⟨h.plan.keep hb, h.left.keep hb, h.res.keep hb⟩
theorem Tot.keepAt {w w' : World} {b N : Nat} {p : Bo.Plan} {left : Int} (h : Tot w b p left) (hb : Below N w w') (hl : b + 2 < N) : Tot w' b p left := ⟨h.plan.keepAt hb (by omega), h.left.keepAt hb (by omega), h.res.keepAt hb (by omega)⟩
theorem Tot.other {w : World} {b : Nat} {p : Bo.Plan} {left : Int} (h : Tot w b p left) (a : Addr) (ha : b + 2 < a.block) (u : Value) : Tot (w.setCell a u) b p left := ⟨h.plan.other a (by omega) u, h.left.other a (by omega) u, h.res.other a (by omega) u⟩
theorem Tot.lt {w : World} {b : Nat} {p : Bo.Plan} {left : Int} (h : Tot w b p left) : b + 2 < w.heap.size := h.res.lt
theorem tot_new (w : World) (p : Bo.Plan) (left : Int) : Tot (((w.alloc (.cells #[.int .i64 p.base, .int .i64 p.cap, .int .i64 p.factor, .int .i64 p.spread, .int .u64 p.seed] 24)).alloc (.cells #[.int .i64 left] 3)).alloc (.cells #[.bool false] 4)) w.heap.size p left :=
  ⟨((PlanAt.new w 24 p).keep (Below.al (Below.refl _ _) _)).keep (Below.al (Below.refl _ _) _), (NumAt.mk (w.alloc (.cells #[.int .i64 p.base, .int .i64 p.cap, .int .i64 p.factor, .int .i64 p.spread, .int .u64 p.seed] 24)) 3 _ _ (by simp)).keep (Below.al (Below.refl _ _) _), NumAt.mk _ 4 _ _ (by simp)⟩
set_option maxRecDepth 100000 in
set_option maxHeartbeats 4000000 in
theorem totals_out (p : Bo.Plan) (key n left seconds : Int) (hU : Bo.U key) (h1 : 60 < n) (h2 : n ≤ 1000) (w : World) :
    Calls Try.prog 3 #[planV p, .int .u64 key, .int .i64 n, .int .i64 left, .int .i64 seconds] w fun e w' => e = .returned (.bool true) ∧ Below w.heap.size w w' := by
  have T := tot_new w p left
  have hb0 := Below.al (Below.al (Below.al (Below.refl w.heap.size w) (.cells #[.int .i64 p.base, .int .i64 p.cap, .int .i64 p.factor, .int .i64 p.spread, .int .u64 p.seed] 24)) (.cells #[.int .i64 left] 3)) (.cells #[.bool false] 4)
  obtain ⟨b, hB⟩ : ∃ b, w.heap.size = b := ⟨_, rfl⟩
  refine calls_marks Try.func3 rfl ?_
  simp only [Try.ntmps3, List.size_toArray, List.length_cons, List.length_nil, Nat.reduceAdd, Nat.reduceSub, Array.replicate_succ, Array.replicate_zero, List.push_toArray, List.append_toArray, List.nil_append, List.cons_append]
  unfold planV
  go_wp2_with fail
  rw [hB] at T hb0
  generalize ((w.alloc (.cells #[.int .i64 p.base, .int .i64 p.cap, .int .i64 p.factor, .int .i64 p.spread, .int .u64 p.seed] 24)).alloc (.cells #[.int .i64 left] 3)).alloc (.cells #[.bool false] 4) = W0 at *
  refine (known_any _).mono ?_
  rintro e w1 ⟨rfl, hc⟩
  replace hb0 := hb0.trans (hc.mono (by have := T.lt; omega))
  replace T := T.keep hc
  clear hc
  obtain ⟨c0, c1, c2, c3, c4⟩ := T.plan.facts
  have cl := T.left.cell
  have cr := T.res.cell
  have fr := T.res.froz
  go_wp2_with fail
  have R := (T.res.set (.bool true)).cell
  have hbf := hb0.setCell (p := ⟨b + 1 + 1, 0, none⟩) (by simp; omega) (.bool true)
  refine ⟨.bool true, ?_, rfl, hB ▸ hbf⟩
  simp [results, Try.results3, go_sem, R]
set_option maxRecDepth 100000 in
set_option maxHeartbeats 4000000 in
theorem totals_no1 (p : Bo.Plan) (key n left seconds : Int) (hU : Bo.U key) (q1 : n ≤ 60) (hp : Bo.may p = false) (w : World) :
    Calls Try.prog 3 #[planV p, .int .u64 key, .int .i64 n, .int .i64 left, .int .i64 seconds] w fun e w' => e = .returned (.bool true) ∧ Below w.heap.size w w' := by
  have T := tot_new w p left
  have hb0 := Below.al (Below.al (Below.al (Below.refl w.heap.size w) (.cells #[.int .i64 p.base, .int .i64 p.cap, .int .i64 p.factor, .int .i64 p.spread, .int .u64 p.seed] 24)) (.cells #[.int .i64 left] 3)) (.cells #[.bool false] 4)
  obtain ⟨b, hB⟩ : ∃ b, w.heap.size = b := ⟨_, rfl⟩
  refine calls_marks Try.func3 rfl ?_
  simp only [Try.ntmps3, List.size_toArray, List.length_cons, List.length_nil, Nat.reduceAdd, Nat.reduceSub, Array.replicate_succ, Array.replicate_zero, List.push_toArray, List.append_toArray, List.nil_append, List.cons_append]
  unfold planV
  go_wp2_with fail
  rw [hB] at T hb0
  generalize ((w.alloc (.cells #[.int .i64 p.base, .int .i64 p.cap, .int .i64 p.factor, .int .i64 p.spread, .int .u64 p.seed] 24)).alloc (.cells #[.int .i64 left] 3)).alloc (.cells #[.bool false] 4) = W0 at *
  refine (known_any _).mono ?_
  rintro e w1 ⟨rfl, hc⟩
  replace hb0 := hb0.trans (hc.mono (by have := T.lt; omega))
  replace T := T.keep hc
  clear hc
  obtain ⟨c0, c1, c2, c3, c4⟩ := T.plan.facts
  have cl := T.left.cell
  have cr := T.res.cell
  have fr := T.res.froz
  have V1 : badN p n = 2 := by unfold badN; rw [hp]; rfl
  have V2 : totalV p key n = 0 := by unfold totalV; rw [if_neg (by omega)]
  have V3 : fitV p key seconds = 0 := by unfold fitV; rw [if_neg (by rw [hp]; simp)]
  have V4 : fitE p seconds = 2 := by unfold fitE; rw [if_neg (by rw [hp]; simp)]
  have HV := Lib.hid (And.intro V2 (And.intro V1 (And.intro V3 V4)))
  clear V1 V2 V3 V4
  go_wp2_with fail
  have Q := (PlanAt.new w1 26 p).keep (Below.al (Below.refl _ _) (.cells #[.slice none 0 0] 27))
  have V := NumAt.mk (w1.alloc (.cells #[.int .i64 p.base, .int .i64 p.cap, .int .i64 p.factor, .int .i64 p.spread, .int .u64 p.seed] 26)) 27 (.slice none 0 0) (w1.heap.size + 1) (by simp)
  have hal := Below.al (Below.al (Below.refl w1.heap.size w1) (.cells #[.int .i64 p.base, .int .i64 p.cap, .int .i64 p.factor, .int .i64 p.spread, .int .u64 p.seed] 26)) (.cells #[.slice none 0 0] 27)
  have hT2 := T.lt
  replace hb0 := hb0.trans (hal.mono (by omega))
  replace T := T.keep hal
  clear hal c0 c1 c2 c3 c4 cl cr fr
  generalize hb11 : w1.heap.size = b1 at *
  generalize (w1.alloc (.cells #[.int .i64 p.base, .int .i64 p.cap, .int .i64 p.factor, .int .i64 p.spread, .int .u64 p.seed] 26)).alloc (.cells #[.slice none 0 0] 27) = W2 at *
  have O0 : OwnI (b1 + 1 + 1) W2 (.slice none 0 0) [] := by unfold OwnI; exact World.ownsRow_nil _ (b1 + 1 + 1) 2 1
  go_loopw [12, 14] (fun a k wr => a = .int .i64 0 ∧ k = .int .i64 1 ∧ Tot wr b p left ∧ PlanAt wr 26 b1 p ∧ Below b w wr) (fun _ k _ => 0)
  case atStart => exact ⟨rfl, rfl, T, Q, hb0⟩
  case round =>
    obtain ⟨rfl, rfl, T, Q, hbr⟩ := hrel
    obtain ⟨d0, d1, d2, d3, d4⟩ := Q.facts
    go_wp2_with fail
    refine (refMay_any p _).mono ?_
    rw [hp]
    rintro e w3 ⟨rfl, hc⟩
    clear d0 d1 d2 d3 d4
    replace hbr := hbr.trans (hc.mono (by have := T.lt; omega))
    replace T := T.keep hc
    replace Q := Q.keep hc
    clear hc
    have hal := Below.al (Below.refl w3.heap.size w3) (.cells #[.int .i64 0] 3)
    obtain ⟨c0, c1, c2, c3, c4⟩ := (T.keep hal).plan.facts
    have K := NumAt.new w3 3 (.int .i64 0)
    go_wp2_with fail
    clear c0 c1 c2 c3 c4
    refine (all_any p key _).mono ?_
    rintro e w4 ⟨Bp, Bk, hBp, hBk, rfl, hP2, hK2, hc⟩
    replace hbr := (hbr.trans (hal.mono (by have := T.lt; omega))).trans (hc.mono (by have := (T.keep hal).lt; omega))
    replace Q := (Q.keep hal).keep hc
    replace K := K.keep hc
    have hT3 := T.lt
    replace T := (T.keep hal).keep hc
    clear hal hc
    generalize hb15 : w3.heap.size = b5 at *
    have hT4 := T.lt
    have hQ4 := Q.lt
    have hK4 := K.lt
    go_wp2_with fail
    have hN : allN p = 0 := by unfold allN; rw [hp]; rfl
    refine wp_rangeFunc_N (gf := 21) (lb := #[.pointer (some ⟨Bp, 0, none⟩), .pointer (some ⟨Bk, 0, none⟩)]) rfl (enters_of Try.func21 (by kernel_rfl) rfl)
      (all_seq 8 (by omega) p key hU Bp Bk (fun k => False) _ (fun h => h) (fun h => h) hP2 hK2) (fun k hk => hk.elim) (fun _ => rfl)
      (fun k W => Tot W b p left ∧ PlanAt W 26 b1 p ∧ NumAt W b5 3 (.int .i64 0) ∧ Below b w W)
      (fun c k W => False)
      (fun s A B hs hb => ⟨hs.1.keepAt hb (by omega), hs.2.1.keepAt hb (by omega), hs.2.2.1.keepAt hb (by omega), hs.2.2.2.trans (hb.mono (by omega))⟩)
      (fun c s A B hs hb => hs)
      ⟨T, Q, K, hbr⟩ ?a1 ?assign ?body ?done ?stop
    case assign =>
      intro l k W K hK
      have HK := Lib.hid hK
      clear hK
      simp only [allEnc]
      gi_wp2
      exact HK.out
    case body =>
      intro l k W hk
      rw [hN] at hk
      omega
    case stop => rintro D c k W hD hkN h; exact h.elim
    case done =>
      clear T Q K hbr
      rintro D W hD ⟨T, Q, K, hbr⟩ hK
      obtain ⟨c0, c1, c2, c3, c4⟩ := T.plan.facts
      go_wp2_with fail
      clear c0 c1 c2 c3 c4
      refine (total_any p key _ hU _).mono ?_
      rw [HV.out.1, HV.out.2.1]
      rintro e w5 ⟨rfl, hc⟩
      replace hbr := hbr.trans (hc.mono (by have := T.lt; omega))
      replace T := T.keep hc
      replace Q := Q.keep hc
      replace K := K.keep hc
      have hD5 := (hc.block D (Array.getElem?_eq_some_iff.1 hK).1).trans hK
      clear hc hK
      obtain ⟨c0, c1, c2, c3, c4⟩ := T.plan.facts
      go_wp2_with fail
      clear c0 c1 c2 c3 c4
      refine (fit_any p key _ hU _).mono ?_
      rw [HV.out.2.2.1, HV.out.2.2.2]
      rintro e w6 ⟨rfl, hc⟩
      replace hbr := hbr.trans (hc.mono (by have := T.lt; omega))
      replace T := T.keep hc
      replace Q := Q.keep hc
      replace K := K.keep hc
      have hD6 := (hc.block D (Array.getElem?_eq_some_iff.1 hD5).1).trans hD5
      clear hc hD5
      obtain ⟨d0, d1, d2, d3, d4⟩ := Q.facts
      go_wp2_with fail
      clear d0 d1 d2 d3 d4
      refine (refMay_any p _).mono ?_
      rw [hp]
      rintro e w7 ⟨rfl, hc⟩
      replace hbr := hbr.trans (hc.mono (by have := T.lt; omega))
      replace T := T.keep hc
      replace K := K.keep hc
      have hD7 := (hc.block D (Array.getElem?_eq_some_iff.1 hD6).1).trans hD6
      clear hc hD6 Q
      have ck := K.cell
      have cr := T.res.cell
      have fr := T.res.froz
      go_wp2_with fail
      have R := T.res.set (.bool true)
      have hbf := hbr.setCell (p := ⟨b + 1 + 1, 0, none⟩) (by simp; omega) (.bool true)
      refine ⟨by simp, .inl ⟨_, _, rfl, run_takeDeferred (w := w7.setCell ⟨b + 1 + 1, 0, none⟩ (.bool true)) (by rw [Below.heap_setCell _ _ _ _ (by simp; omega)]; exact hD7), ?_⟩⟩
      have hbD := Below.putObj (Below.refl w4.heap.size (w7.setCell ⟨b + 1 + 1, 0, none⟩ (.bool true))) hD (.deferred none)
      have m6 := (R.keepAt hbD (by omega)).cell
      refine ⟨.bool true, ?_, rfl, hB ▸ (hbf.trans (hbD.mono (by omega)))⟩
      simp [results, Try.results3, go_sem, m6]
set_option maxRecDepth 100000 in
set_option maxHeartbeats 4000000 in
theorem totals_no2 (p : Bo.Plan) (key n left seconds : Int) (hU : Bo.U key) (q1 : 60 < n) (q2 : 1000 < n) (hp : Bo.may p = false) (w : World) :
    Calls Try.prog 3 #[planV p, .int .u64 key, .int .i64 n, .int .i64 left, .int .i64 seconds] w fun e w' => e = .returned (.bool true) ∧ Below w.heap.size w w' := by
  have T := tot_new w p left
  have hb0 := Below.al (Below.al (Below.al (Below.refl w.heap.size w) (.cells #[.int .i64 p.base, .int .i64 p.cap, .int .i64 p.factor, .int .i64 p.spread, .int .u64 p.seed] 24)) (.cells #[.int .i64 left] 3)) (.cells #[.bool false] 4)
  obtain ⟨b, hB⟩ : ∃ b, w.heap.size = b := ⟨_, rfl⟩
  refine calls_marks Try.func3 rfl ?_
  simp only [Try.ntmps3, List.size_toArray, List.length_cons, List.length_nil, Nat.reduceAdd, Nat.reduceSub, Array.replicate_succ, Array.replicate_zero, List.push_toArray, List.append_toArray, List.nil_append, List.cons_append]
  unfold planV
  go_wp2_with fail
  rw [hB] at T hb0
  generalize ((w.alloc (.cells #[.int .i64 p.base, .int .i64 p.cap, .int .i64 p.factor, .int .i64 p.spread, .int .u64 p.seed] 24)).alloc (.cells #[.int .i64 left] 3)).alloc (.cells #[.bool false] 4) = W0 at *
  refine (known_any _).mono ?_
  rintro e w1 ⟨rfl, hc⟩
  replace hb0 := hb0.trans (hc.mono (by have := T.lt; omega))
  replace T := T.keep hc
  clear hc
  obtain ⟨c0, c1, c2, c3, c4⟩ := T.plan.facts
  have cl := T.left.cell
  have cr := T.res.cell
  have fr := T.res.froz
  have V1 : badN p n = 2 := by unfold badN; rw [hp]; rfl
  have V2 : totalV p key n = 0 := by unfold totalV; rw [if_neg (by omega)]
  have V3 : fitV p key seconds = 0 := by unfold fitV; rw [if_neg (by rw [hp]; simp)]
  have V4 : fitE p seconds = 2 := by unfold fitE; rw [if_neg (by rw [hp]; simp)]
  have HV := Lib.hid (And.intro V2 (And.intro V1 (And.intro V3 V4)))
  clear V1 V2 V3 V4
  go_wp2_with fail
  have Q := (PlanAt.new w1 26 p).keep (Below.al (Below.refl _ _) (.cells #[.slice none 0 0] 27))
  have V := NumAt.mk (w1.alloc (.cells #[.int .i64 p.base, .int .i64 p.cap, .int .i64 p.factor, .int .i64 p.spread, .int .u64 p.seed] 26)) 27 (.slice none 0 0) (w1.heap.size + 1) (by simp)
  have hal := Below.al (Below.al (Below.refl w1.heap.size w1) (.cells #[.int .i64 p.base, .int .i64 p.cap, .int .i64 p.factor, .int .i64 p.spread, .int .u64 p.seed] 26)) (.cells #[.slice none 0 0] 27)
  have hT2 := T.lt
  replace hb0 := hb0.trans (hal.mono (by omega))
  replace T := T.keep hal
  clear hal c0 c1 c2 c3 c4 cl cr fr
  generalize hb11 : w1.heap.size = b1 at *
  generalize (w1.alloc (.cells #[.int .i64 p.base, .int .i64 p.cap, .int .i64 p.factor, .int .i64 p.spread, .int .u64 p.seed] 26)).alloc (.cells #[.slice none 0 0] 27) = W2 at *
  have O0 : OwnI (b1 + 1 + 1) W2 (.slice none 0 0) [] := by unfold OwnI; exact World.ownsRow_nil _ (b1 + 1 + 1) 2 1
  go_loopw [12, 14] (fun a k wr => a = .int .i64 0 ∧ k = .int .i64 1 ∧ Tot wr b p left ∧ PlanAt wr 26 b1 p ∧ Below b w wr) (fun _ k _ => 0)
  case atStart => exact ⟨rfl, rfl, T, Q, hb0⟩
  case round =>
    obtain ⟨rfl, rfl, T, Q, hbr⟩ := hrel
    obtain ⟨d0, d1, d2, d3, d4⟩ := Q.facts
    go_wp2_with fail
    refine (refMay_any p _).mono ?_
    rw [hp]
    rintro e w3 ⟨rfl, hc⟩
    clear d0 d1 d2 d3 d4
    replace hbr := hbr.trans (hc.mono (by have := T.lt; omega))
    replace T := T.keep hc
    replace Q := Q.keep hc
    clear hc
    have hal := Below.al (Below.refl w3.heap.size w3) (.cells #[.int .i64 0] 3)
    obtain ⟨c0, c1, c2, c3, c4⟩ := (T.keep hal).plan.facts
    have K := NumAt.new w3 3 (.int .i64 0)
    go_wp2_with fail
    clear c0 c1 c2 c3 c4
    refine (all_any p key _).mono ?_
    rintro e w4 ⟨Bp, Bk, hBp, hBk, rfl, hP2, hK2, hc⟩
    replace hbr := (hbr.trans (hal.mono (by have := T.lt; omega))).trans (hc.mono (by have := (T.keep hal).lt; omega))
    replace Q := (Q.keep hal).keep hc
    replace K := K.keep hc
    have hT3 := T.lt
    replace T := (T.keep hal).keep hc
    clear hal hc
    generalize hb15 : w3.heap.size = b5 at *
    have hT4 := T.lt
    have hQ4 := Q.lt
    have hK4 := K.lt
    go_wp2_with fail
    have hN : allN p = 0 := by unfold allN; rw [hp]; rfl
    refine wp_rangeFunc_N (gf := 21) (lb := #[.pointer (some ⟨Bp, 0, none⟩), .pointer (some ⟨Bk, 0, none⟩)]) rfl (enters_of Try.func21 (by kernel_rfl) rfl)
      (all_seq 8 (by omega) p key hU Bp Bk (fun k => False) _ (fun h => h) (fun h => h) hP2 hK2) (fun k hk => hk.elim) (fun _ => rfl)
      (fun k W => Tot W b p left ∧ PlanAt W 26 b1 p ∧ NumAt W b5 3 (.int .i64 0) ∧ Below b w W)
      (fun c k W => False)
      (fun s A B hs hb => ⟨hs.1.keepAt hb (by omega), hs.2.1.keepAt hb (by omega), hs.2.2.1.keepAt hb (by omega), hs.2.2.2.trans (hb.mono (by omega))⟩)
      (fun c s A B hs hb => hs)
      ⟨T, Q, K, hbr⟩ ?a1 ?assign ?body ?done ?stop
    case assign =>
      intro l k W K hK
      have HK := Lib.hid hK
      clear hK
      simp only [allEnc]
      gi_wp2
      exact HK.out
    case body =>
      intro l k W hk
      rw [hN] at hk
      omega
    case stop => rintro D c k W hD hkN h; exact h.elim
    case done =>
      clear T Q K hbr
      rintro D W hD ⟨T, Q, K, hbr⟩ hK
      obtain ⟨c0, c1, c2, c3, c4⟩ := T.plan.facts
      go_wp2_with fail
      clear c0 c1 c2 c3 c4
      refine (total_any p key _ hU _).mono ?_
      rw [HV.out.1, HV.out.2.1]
      rintro e w5 ⟨rfl, hc⟩
      replace hbr := hbr.trans (hc.mono (by have := T.lt; omega))
      replace T := T.keep hc
      replace Q := Q.keep hc
      replace K := K.keep hc
      have hD5 := (hc.block D (Array.getElem?_eq_some_iff.1 hK).1).trans hK
      clear hc hK
      obtain ⟨c0, c1, c2, c3, c4⟩ := T.plan.facts
      go_wp2_with fail
      clear c0 c1 c2 c3 c4
      refine (fit_any p key _ hU _).mono ?_
      rw [HV.out.2.2.1, HV.out.2.2.2]
      rintro e w6 ⟨rfl, hc⟩
      replace hbr := hbr.trans (hc.mono (by have := T.lt; omega))
      replace T := T.keep hc
      replace Q := Q.keep hc
      replace K := K.keep hc
      have hD6 := (hc.block D (Array.getElem?_eq_some_iff.1 hD5).1).trans hD5
      clear hc hD5
      obtain ⟨d0, d1, d2, d3, d4⟩ := Q.facts
      go_wp2_with fail
      clear d0 d1 d2 d3 d4
      refine (refMay_any p _).mono ?_
      rw [hp]
      rintro e w7 ⟨rfl, hc⟩
      replace hbr := hbr.trans (hc.mono (by have := T.lt; omega))
      replace T := T.keep hc
      replace K := K.keep hc
      have hD7 := (hc.block D (Array.getElem?_eq_some_iff.1 hD6).1).trans hD6
      clear hc hD6 Q
      have ck := K.cell
      have cr := T.res.cell
      have fr := T.res.froz
      go_wp2_with fail
      have R := T.res.set (.bool true)
      have hbf := hbr.setCell (p := ⟨b + 1 + 1, 0, none⟩) (by simp; omega) (.bool true)
      refine ⟨by simp, .inl ⟨_, _, rfl, run_takeDeferred (w := w7.setCell ⟨b + 1 + 1, 0, none⟩ (.bool true)) (by rw [Below.heap_setCell _ _ _ _ (by simp; omega)]; exact hD7), ?_⟩⟩
      have hbD := Below.putObj (Below.refl w4.heap.size (w7.setCell ⟨b + 1 + 1, 0, none⟩ (.bool true))) hD (.deferred none)
      have m6 := (R.keepAt hbD (by omega)).cell
      refine ⟨.bool true, ?_, rfl, hB ▸ (hbf.trans (hbD.mono (by omega)))⟩
      simp [results, Try.results3, go_sem, m6]
end Go.Proofs.Ytejaiaoiceknlaa
