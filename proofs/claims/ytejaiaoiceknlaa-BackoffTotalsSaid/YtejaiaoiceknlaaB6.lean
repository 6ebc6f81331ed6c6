import Derived.Test.YtejaiaoiceknlaaB5
namespace Go.Proofs.Ytejaiaoiceknlaa
open Go.RowKit Go.Shelf
attribute [local go_sem] Oper.semAt_some

def fitV (p : Bo.Plan) (key s : Int) : Int := if Bo.may p = true ∧ 0 ≤ s then (Bo.fit p key s 1000 : Int) else 0
def fitE (p : Bo.Plan) (s : Int) : Int := if Bo.may p = true ∧ 0 ≤ s then 0 else 2
set_option maxRecDepth 100000 in
set_option maxHeartbeats 1000000 in
theorem fit_any (p : Bo.Plan) (key s : Int) (hU : Bo.U key) (w : World) : Calls Try.prog 13 #[planV p, .int .u64 key, .int .i64 s] w fun e w' => e = .returned (.tuple #[.int .i64 (fitV p key s), .int .i64 (fitE p s)]) ∧ Below w.heap.size w w' := by
  obtain ⟨b, hb⟩ : ∃ b, fitE p s = b := ⟨_, rfl⟩
  obtain ⟨f, hf⟩ : ∃ f, fitV p key s = f := ⟨_, rfl⟩
  have hmay := may_any p
  rw [hf, hb]
  refine (callsIn_wide (n := 5)).1 ?_
  refine callsIn_of_wp_marks Try.func13 rfl trivial ?_ rfl
  simp only [Try.ntmps13, List.size_toArray, List.length_cons, List.length_nil, Nat.reduceAdd, Nat.reduceSub, Array.replicate_succ, Array.replicate_zero, List.push_toArray, List.append_toArray, List.nil_append, List.cons_append]
  have hb0 : Below w.heap.size w ((w.alloc (.cells #[.int .i64 p.base, .int .i64 p.cap, .int .i64 p.factor, .int .i64 p.spread, .int .u64 p.seed] 24)).alloc (.cells #[.int .i64 s] 2)) :=
    Below.al (Below.al (Below.refl _ _) _) _
  have hP0 := (PlanAt.new w 24 p).keep (Below.al (Below.refl _ _) (.cells #[.int .i64 s] 2))
  have hN5 := NumAt.mk (w.alloc (.cells #[.int .i64 p.base, .int .i64 p.cap, .int .i64 p.factor, .int .i64 p.spread, .int .u64 p.seed] 24)) 2 (.int .i64 s) (w.heap.size + 1) (by simp)
  by_cases hp : Bo.may p = true
  · by_cases h0 : 0 ≤ s
    · have hb' : b = 0 := by rw [← hb]; unfold fitE; rw [if_pos ⟨hp, h0⟩]
      have hf' : f = (Bo.fit p key s 1000 : Int) := by rw [← hf]; unfold fitV; rw [if_pos ⟨hp, h0⟩]
      subst hb'
      subst hf'
      have hN : allN p = 1000 := by unfold allN; rw [hp]; rfl
      have HFE := Lib.hid (Bo.fit_eq p hp key s)
      clear hb hf
      rw [hp] at hmay
      gi_wp2_with (refine ⟨trivial, ?_⟩; gi_at_call 15; refine (callsIn_wide.2 (hmay _)).mono ?_; rintro e w1 ⟨rfl, hc⟩; obtain ⟨d0, d1, d2, d3, d4⟩ := (hP0.keep hc).facts; have d5 := (hN5.keep hc).cell; have hal := Below.al (Below.refl w1.heap.size w1) (.cells #[.int .i64 0] 3); obtain ⟨g0, g1, g2, g3, g4⟩ := ((hP0.keep hc).keep hal).facts)
      gi_wp2_with (refine ⟨trivial, ?_⟩; gi_at_call 11; refine (callsIn_wide.2 (all_any p key _)).mono ?_; rintro e w2 ⟨Bp, Bk, hBp, hBk, rfl, hP2, hK2, hc2⟩)
      have N8 := (NumAt.new w1 3 (.int .i64 0)).keep hc2
      have hb2 := Below.call (Below.call (Below.call hb0 hc) hal) hc2
      have N5 := ((hN5.keep hc).keep hal).keep hc2
      have hz := (hN5.keep hc).lt
      have hz8 := (NumAt.new w1 3 (.int .i64 0)).lt
      have hz2 := hc2.size
      generalize hB8 : w1.heap.size = b8 at *
      have hbb8 : w.heap.size ≤ b8 := by omega
      clear hP0 hN5 hc hc2 d0 d1 d2 d3 d4 d5 g0 g1 g2 g3 g4 hal hmay hb0
      refine wpIn_rangeFunc_N rfl (by omega) (gf := 21) (lb := #[.pointer (some ⟨Bp, 0, none⟩), .pointer (some ⟨Bk, 0, none⟩)]) rfl trivial (enters_of Try.func21 (by kernel_rfl) rfl)
        (all_seq 4 (by omega) p key hU Bp Bk (fun k => k = b8) _ (by omega) (by omega) hP2 hK2) (fun k hk => by omega) (fun _ => rfl)
        (fun k W => (k = 0 ∨ Bo.at' p key k ≤ s) ∧ NumAt W (w.heap.size + 1) 2 (.int .i64 s) ∧ NumAt W b8 3 (.int .i64 k) ∧ Below w.heap.size w W)
        (fun c k W => ∃ j, k = j + 1 ∧ c = .exit 0 ∧ s < Bo.at' p key (j + 1) ∧ (j = 0 ∨ Bo.at' p key j ≤ s) ∧ NumAt W b8 3 (.int .i64 j) ∧ Below w.heap.size w W)
        (fun s A B hs hb => ⟨hs.1, hs.2.1.keepAt hb (by omega), hs.2.2.1.keepAt hb (by omega), hs.2.2.2.trans (hb.mono (by omega))⟩)
        (fun c s A B hs hb => by obtain ⟨j, h1, h2, h3, h4, h5, h6⟩ := hs; exact ⟨j, h1, h2, h3, h4, h5.keepAt hb (by omega), h6.trans (hb.mono (by omega))⟩)
        ⟨.inl rfl, N5, N8, hb2⟩ ?a1 ?assign ?body ?done ?stop
      case assign =>
        intro l k W K hK
        have HK := Lib.hid hK
        clear hK
        simp only [allEnc]
        gi_wp2
        exact HK.out
      case body =>
        rintro l k W hkN ⟨hat, N5, N8, hbW⟩ hzW
        have c5 := N5.cell
        have f8 := N8.froz
        have c8 := N8.cell
        have HAT := Lib.hid hat
        have M8 := N8.set (.int .i64 ((k : Int) + 1))
        have M5 := N5.other ⟨b8, 0, none⟩ (by simp; omega) (.int .i64 ((k : Int) + 1))
        clear hat
        by_cases hkm : s < Bo.at' p key (k + 1)
        · gi_wp2
          exact ⟨Off.refl _ _, k, rfl, rfl, hkm, HAT.out, N8, hbW⟩
        · gi_wp2
          exact ⟨(Off.refl (fun k => k = b8) W).setCell (a := ⟨b8, 0, none⟩) rfl _, .inr (by omega), M5, by simpa using M8, hbW.setCell (by simp; omega) _⟩
      case done =>
        rintro D W hD ⟨hat, N5, N8, hbW⟩ hK
        have c8 := N8.cell
        rw [hN] at *
        have hfe := HFE.out 1000 1000 (Nat.le_refl _) hat (.inl rfl)
        gi_wp2
        refine ⟨by simp, .inl ⟨_, _, rfl, run_takeDeferred hK, ?_⟩⟩
        have hbD := Below.putObj (Below.refl w2.heap.size W) hD (.deferred none)
        exact ⟨_, results_tmp2 rfl _ _ _, rfl, hbW.trans (hbD.mono (by omega))⟩
      case stop =>
        rintro D c k W hD hkN ⟨j, hkj, rfl, hs, hat, N8, hbW⟩ hK
        obtain rfl : k = j := by omega
        rw [hN] at hkN
        have hfe := HFE.out k 1000 (by omega) hat (.inr hs)
        clear hkj hat hs
        have c8 := N8.cell
        gi_wp2
        refine ⟨by simp, .inl ⟨_, _, rfl, run_takeDeferred hK, ?_⟩⟩
        have hbD := Below.putObj (Below.refl w2.heap.size W) hD (.deferred none)
        exact ⟨_, results_tmp2 rfl _ _ _, (by rw [hfe]; rfl), hbW.trans (hbD.mono (by omega))⟩
    · have hb' : b = 2 := by rw [← hb]; unfold fitE; rw [if_neg (fun h => h0 h.2)]
      have hf' : f = 0 := by rw [← hf]; unfold fitV; rw [if_neg (fun h => h0 h.2)]
      subst hb'
      subst hf'
      clear hb hf
      rw [hp] at hmay
      gi_wp2_with (refine ⟨trivial, ?_⟩; gi_at_call 15; refine (callsIn_wide.2 (hmay _)).mono ?_; rintro e w1 ⟨rfl, hc⟩; have d5 := (hN5.keep hc).cell)
      exact ⟨_, results_tmp2 rfl _ _ _, rfl, Below.call hb0 hc⟩
  · have hb' : b = 2 := by rw [← hb]; unfold fitE; rw [if_neg (fun h => hp h.1)]
    have hf' : f = 0 := by rw [← hf]; unfold fitV; rw [if_neg (fun h => hp h.1)]
    subst hb'
    subst hf'
    have hp' : Bo.may p = false := by simpa using hp
    rw [hp'] at hmay
    clear hb hf hp hp'
    gi_wp2_with (refine ⟨trivial, ?_⟩; gi_at_call 15; refine (callsIn_wide.2 (hmay _)).mono ?_; rintro e w1 ⟨rfl, hc⟩)
    exact ⟨_, results_tmp2 rfl _ _ _, rfl, Below.call hb0 hc⟩
end Go.Proofs.Ytejaiaoiceknlaa
