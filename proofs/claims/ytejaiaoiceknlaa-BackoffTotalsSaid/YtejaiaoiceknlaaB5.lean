import Derived.Test.YtejaiaoiceknlaaB4
namespace Go.Proofs.Ytejaiaoiceknlaa
open Go.RowKit Go.Shelf
attribute [local go_sem] Oper.semAt_some

theorem NumAt.keepAt {w w' : World} {b N : Nat} {t : TypeId} {v : Value} (h : NumAt w b t v) (hb : Below N w w') (hl : b < N) : NumAt w' b t v := by
  unfold NumAt; rw [hb.block _ hl]; exact h
theorem PlanAt.keepAt {w w' : World} {b N : Nat} {t : TypeId} {p : Bo.Plan} (h : PlanAt w t b p) (hb : Below N w w') (hl : b < N) : PlanAt w' t b p := by
  unfold PlanAt; rw [hb.block _ hl]; exact h
theorem NumAt.mk (w : World) (t : TypeId) (v : Value) (b : Nat) (h : b = w.heap.size) : NumAt (w.alloc (.cells #[v] t)) b t v := by subst h; exact NumAt.new w t v
theorem all_any (p : Bo.Plan) (key : Int) (w : World) : Calls Try.prog 11 #[planV p, .int .u64 key] w fun e w' => ∃ Bp Bk, w.heap.size ≤ Bp ∧ w.heap.size ≤ Bk ∧
    e = .returned (.func (.func 21) #[] #[.pointer (some ⟨Bp, 0, none⟩), .pointer (some ⟨Bk, 0, none⟩)]) ∧ PlanAt w' 24 Bp p ∧ NumAt w' Bk 22 (.int .u64 key) ∧ Below w.heap.size w w' := by
  unfold planV
  go_enter Try.func11, Try.ntmps11
  go_wp2_with fail
  go_ret
  have hb := Below.al (Below.refl _ w) (.cells #[.int .i64 p.base, .int .i64 p.cap, .int .i64 p.factor, .int .i64 p.spread, .int .u64 p.seed] 24)
  refine ⟨w.heap.size, w.heap.size + 1, Nat.le_refl _, by omega, rfl, (PlanAt.new w 24 p).keep (Below.al (Below.refl _ _) _), ?_, Below.al hb _⟩
  have := NumAt.new (w.alloc (.cells #[.int .i64 p.base, .int .i64 p.cap, .int .i64 p.factor, .int .i64 p.spread, .int .u64 p.seed] 24)) 22 (.int .u64 key)
  simpa using this
def totalV (p : Bo.Plan) (key n : Int) : Int := if badN p n = 0 then Bo.at' p key n.toNat else 0
set_option maxRecDepth 100000 in
set_option maxHeartbeats 1000000 in
theorem total_any (p : Bo.Plan) (key n : Int) (hU : Bo.U key) (w : World) : Calls Try.prog 12 #[planV p, .int .u64 key, .int .i64 n] w fun e w' => e = .returned (.tuple #[.int .i64 (totalV p key n), .int .i64 (badN p n)]) ∧ Below w.heap.size w w' := by
  obtain ⟨b, hb⟩ : ∃ b, badN p n = b := ⟨_, rfl⟩
  obtain ⟨f, hf⟩ : ∃ f, totalV p key n = f := ⟨_, rfl⟩
  have hbad := bad_any p n
  rw [hf, hb]
  rw [hb] at hbad
  refine (callsIn_wide (n := 5)).1 ?_
  refine callsIn_of_wp_marks Try.func12 rfl trivial ?_ rfl
  simp only [Try.ntmps12, List.size_toArray, List.length_cons, List.length_nil, Nat.reduceAdd, Nat.reduceSub, Array.replicate_succ, Array.replicate_zero, List.push_toArray, List.append_toArray, List.nil_append, List.cons_append]
  have hb0 : Below w.heap.size w ((((w.alloc (.cells #[.int .i64 p.base, .int .i64 p.cap, .int .i64 p.factor, .int .i64 p.spread, .int .u64 p.seed] 24)).alloc (.cells #[.int .i64 n] 3)).alloc (.cells #[.int .i64 0] 2)).alloc (.cells #[.int .i64 0] 33)) :=
    Below.al (Below.al (Below.al (Below.al (Below.refl _ _) _) _) _) _
  have hP0 := (((PlanAt.new w 24 p).keep (Below.al (Below.refl _ _) (.cells #[.int .i64 n] 3))).keep (Below.al (Below.refl _ _) (.cells #[.int .i64 0] 2))).keep (Below.al (Below.refl _ _) (.cells #[.int .i64 0] 33))
  have hN5 := ((NumAt.mk (w.alloc (.cells #[.int .i64 p.base, .int .i64 p.cap, .int .i64 p.factor, .int .i64 p.spread, .int .u64 p.seed] 24)) 3 (.int .i64 n) (w.heap.size + 1) (by simp)).keep (Below.al (Below.refl _ _) (.cells #[.int .i64 0] 2))).keep (Below.al (Below.refl _ _) (.cells #[.int .i64 0] 33))
  have hN6 := (NumAt.mk ((w.alloc (.cells #[.int .i64 p.base, .int .i64 p.cap, .int .i64 p.factor, .int .i64 p.spread, .int .u64 p.seed] 24)).alloc (.cells #[.int .i64 n] 3)) 2 (.int .i64 0) (w.heap.size + 1 + 1) (by simp)).keep (Below.al (Below.refl _ _) (.cells #[.int .i64 0] 33))
  have hN7 := NumAt.mk (((w.alloc (.cells #[.int .i64 p.base, .int .i64 p.cap, .int .i64 p.factor, .int .i64 p.spread, .int .u64 p.seed] 24)).alloc (.cells #[.int .i64 n] 3)).alloc (.cells #[.int .i64 0] 2)) 33 (.int .i64 0) (w.heap.size + 1 + 1 + 1) (by simp)
  by_cases h0 : b = 0
  · have hbn : (b != 0) = false := by simp [h0]
    obtain ⟨hp, h1, h2⟩ := (bad_0 p n).1 (hb.trans h0)
    obtain ⟨m, rfl⟩ := Int.eq_ofNat_of_zero_le (show 0 ≤ n by omega)
    have hfm : f = Bo.at' p key m := by rw [← hf]; unfold totalV; rw [if_pos (hb.trans h0)]; rfl
    have hN : allN p = 1000 := by unfold allN; rw [hp]; rfl
    subst h0
    subst hfm
    clear hf hb
    gi_wp2_with (refine ⟨trivial, ?_⟩; gi_at_call 24; refine (callsIn_wide.2 (hbad _)).mono ?_; rintro e w1 ⟨rfl, hc⟩; obtain ⟨d0, d1, d2, d3, d4⟩ := (hP0.keep hc).facts)
    gi_wp2_with (refine ⟨trivial, ?_⟩; gi_at_call 11; refine (callsIn_wide.2 (all_any p key _)).mono ?_; rintro e w2 ⟨Bp, Bk, hBp, hBk, rfl, hP2, hK2, hc2⟩)
    have hb2 := Below.call (Below.call hb0 hc) hc2
    have N5 := (hN5.keep hc).keep hc2
    have N6 := (hN6.keep hc).keep hc2
    have N7 := (hN7.keep hc).keep hc2
    have hz := (hN7.keep hc).lt
    have hz2 := Nat.lt_of_lt_of_le hz hc2.size
    clear hP0 hN5 hN6 hN7 hc hc2 d0 d1 d2 d3 d4 hbad hb0
    refine wpIn_rangeFunc_N rfl (by omega) (gf := 21) (lb := #[.pointer (some ⟨Bp, 0, none⟩), .pointer (some ⟨Bk, 0, none⟩)]) rfl trivial (enters_of Try.func21 (by kernel_rfl) rfl)
      (all_seq 4 (by omega) p key hU Bp Bk (fun k => k = w.heap.size + 1 + 1 ∨ k = w.heap.size + 1 + 1 + 1) _ (by omega) (by omega) hP2 hK2) (fun k hk => by omega) (fun _ => rfl)
      (fun k W => k < m ∧ NumAt W (w.heap.size + 1) 3 (.int .i64 m) ∧ NumAt W (w.heap.size + 1 + 1) 2 (.int .i64 0) ∧ NumAt W (w.heap.size + 1 + 1 + 1) 33 (.int .i64 0) ∧ Below w.heap.size w W)
      (fun c k W => c = .ret ∧ k = m ∧ NumAt W (w.heap.size + 1 + 1) 2 (.int .i64 (Bo.at' p key m)) ∧ NumAt W (w.heap.size + 1 + 1 + 1) 33 (.int .i64 0) ∧ Below w.heap.size w W)
      (fun s A B hs hb => ⟨hs.1, hs.2.1.keepAt hb (by omega), hs.2.2.1.keepAt hb (by omega), hs.2.2.2.1.keepAt hb (by omega), hs.2.2.2.2.trans (hb.mono (by omega))⟩)
      (fun c s A B hs hb => ⟨hs.1, hs.2.1, hs.2.2.1.keepAt hb (by omega), hs.2.2.2.1.keepAt hb (by omega), hs.2.2.2.2.trans (hb.mono (by omega))⟩)
      ⟨by omega, N5, N6, N7, hb2⟩ ?a1 ?assign ?body ?done ?stop
    case assign =>
      intro l k W K hK
      have HK := Lib.hid hK
      clear hK
      simp only [allEnc]
      gi_wp2
      exact HK.out
    case body =>
      rintro l k W hkN ⟨hlt, N5, N6, N7, hbW⟩ hzW
      have c5 := N5.cell
      have f6 := N6.froz
      have f7 := N7.froz
      have hle := (Bo.at_bd p hp key (k + 1))
      by_cases hkm : k + 1 = m
      · have hq : (((k : Int) + 1) == (m : Int)) = true := by simp; omega
        have c6 := N6.cell
        have M7 := N7.other ⟨w.heap.size + 1 + 1, 0, none⟩ (by simp) (.int .i64 (Bo.at' p key m))
        have m7 := M7.cell
        have P6 := (N6.set (.int .i64 (Bo.at' p key m))).other ⟨w.heap.size + 1 + 1 + 1, 0, none⟩ (by simp) (.int .i64 0)
        have P7 := M7.set (.int .i64 0)
        gi_wp2
        exact ⟨((Off.refl _ _).setCell (.inl rfl) _).setCell (.inr rfl) _, rfl, hkm, P6, P7, (hbW.setCell (by simp; omega) _).setCell (by simp; omega) _⟩
      · have hq : (((k : Int) + 1) == (m : Int)) = false := beq_false_of_ne (by omega)
        gi_wp2
        exact ⟨Off.refl _ _, by omega, N5, N6, N7, hbW⟩
    case done =>
      rintro D W hD ⟨hlt, -⟩ -
      omega
    case stop =>
      rintro D c k W hD hkN ⟨rfl, hkm, N6, N7, hbW⟩ hK
      gi_wp2
      refine ⟨by simp, .inl ⟨_, _, rfl, run_takeDeferred hK, ?_⟩⟩
      have hbD := Below.putObj (Below.refl w2.heap.size W) hD (.deferred none)
      have m6 := (N6.keepAt hbD (by omega)).cell
      have m7 := (N7.keepAt hbD (by omega)).cell
      refine ⟨.tuple #[.int .i64 (Bo.at' p key m), .int .i64 0], ?_, rfl, hbW.trans (hbD.mono (by omega))⟩
      simp [results, Try.results12, go_sem, m6, m7]
  · have hbb : (b == 0) = false := beq_false_of_ne h0
    have hbn : (b != 0) = true := by simp [h0]
    have hf0 : f = 0 := by rw [← hf]; unfold totalV; rw [if_neg (by rw [hb]; exact h0)]
    clear hf
    gi_wp2_with (refine ⟨trivial, ?_⟩; gi_at_call 24; refine (callsIn_wide.2 (hbad _)).mono ?_; rintro e w1 ⟨rfl, hc⟩; obtain ⟨d0, d1, d2, d3, d4⟩ := (hP0.keep hc).facts; have d5 := (hN5.keep hc).cell; have d6 := (hN6.keep hc).cell; have d7 := (hN7.keep hc).cell; have z6 := (hN6.keep hc).froz; have z7 := (hN7.keep hc).froz)
    have hb1 := Below.call hb0 hc
    have M6 := ((hN6.keep hc).set (.int .i64 0)).other ⟨w.heap.size + 1 + 1 + 1, 0, none⟩ (by simp) (.int .i64 b)
    have M7 := ((hN7.keep hc).other ⟨w.heap.size + 1 + 1, 0, none⟩ (by simp) (.int .i64 0)).set (.int .i64 b)
    have m6 := M6.cell
    have m7 := M7.cell
    refine ⟨.tuple #[.int .i64 f, .int .i64 b], ?_, rfl, (hb1.setCell (by simp; omega) _).setCell (by simp; omega) _⟩
    rw [hf0]
    simp [results, Try.results12, go_sem, m6, m7]
end Go.Proofs.Ytejaiaoiceknlaa
