import Derived.Test.YtejaiaoiceknlaaB7
namespace Go.Proofs.Ytejaiaoiceknlaa
open Go.RowKit Go.Shelf
attribute [local go_sem] Oper.semAt_some

def ten : Bo.Plan := ⟨10, 100, 200, 0, 0⟩
def tens : List Int := [10, 20, 40, 80, 100, 100]
theorem ten_may : Bo.may ten = true := by decide
theorem ten_full : ∀ k : Nat, k < 6 → fullV ten ((k : Int) + 1) = tens.getD k 0 ∧ badN ten ((k : Int) + 1) = 0 := by decide +kernel
theorem wait_0 (p : Bo.Plan) (hs : p.spread = 0) (key n f : Int) (hf : 1 ≤ f) : Bo.wait p key n f = f := by
  unfold Bo.wait
  rw [hs, Int.mul_zero, Int.zero_ediv, Int.zero_add, Int.emod_one]
  omega
theorem ten_at (key : Int) : Bo.at' ten key 1 = 10 ∧ Bo.at' ten key 3 = 70 ∧ Bo.at' ten key 4 = 150 ∧ Bo.at' ten key 5 = 250 := by
  have f1 : Bo.full ten 1 = 10 := by decide +kernel
  have f2 : Bo.full ten 2 = 20 := by decide +kernel
  have f3 : Bo.full ten 3 = 40 := by decide +kernel
  have f4 : Bo.full ten 4 = 80 := by decide +kernel
  have f5 : Bo.full ten 5 = 100 := by decide +kernel
  have w : ∀ n f : Int, 1 ≤ f → Bo.wait ten key n f = f := fun n f hf => wait_0 ten rfl key n f hf
  have a1 : Bo.at' ten key 1 = 10 := by rw [Bo.at_succ, f1, w _ _ (by omega)]; rfl
  have a2 : Bo.at' ten key 2 = 30 := by rw [Bo.at_succ, f2, w _ _ (by omega), a1]; rfl
  have a3 : Bo.at' ten key 3 = 70 := by rw [Bo.at_succ, f3, w _ _ (by omega), a2]; rfl
  have a4 : Bo.at' ten key 4 = 150 := by rw [Bo.at_succ, f4, w _ _ (by omega), a3]; rfl
  have a5 : Bo.at' ten key 5 = 250 := by rw [Bo.at_succ, f5, w _ _ (by omega), a4]; rfl
  exact ⟨a1, a3, a4, a5⟩
theorem ten_fit (key : Int) : fitV ten key 149 = 3 ∧ fitV ten key 150 = 4 ∧ fitV ten key 9 = 0 := by
  obtain ⟨a1, a3, a4, a5⟩ := ten_at key
  unfold fitV
  rw [if_pos ⟨ten_may, by omega⟩, if_pos ⟨ten_may, by omega⟩, if_pos ⟨ten_may, by omega⟩]
  rw [Bo.fit_eq ten ten_may key 149 3 1000 (by omega) (.inr (by omega)) (.inr (by show _ < Bo.at' ten key 4; omega)), Bo.fit_eq ten ten_may key 150 4 1000 (by omega) (.inr (by omega)) (.inr (by show _ < Bo.at' ten key 5; omega)), Bo.fit_eq ten ten_may key 9 0 1000 (by omega) (.inl rfl) (.inr (by show _ < Bo.at' ten key 1; omega))]
  exact ⟨rfl, rfl, rfl⟩
theorem ten_total (key : Int) : totalV ten key 4 = 150 := by
  unfold totalV
  rw [if_pos (by decide +kernel)]
  exact (ten_at key).2.2.1
theorem tens_step : ∀ k : Nat, k < 6 → tens.take (k + 1) = tens.take k ++ [tens.getD k 0] := by decide

/-- the chapter's plan -/
theorem tenV (w : World) : Calls Try.prog 18 #[] w fun e w' => e = .returned (planV ten) ∧ Below w.heap.size w w' := ten_any w
theorem full_ten (k : Nat) (hk : k < 6) (w : World) : Calls Try.prog 14 #[planV ten, .int .i64 ((k : Int) + 1)] w fun e w' => e = .returned (.tuple #[.int .i64 (tens.getD k 0), .int .i64 0]) ∧ Below w.heap.size w w' := by
  have := full_any ten ((k : Int) + 1) w
  rw [(ten_full k hk).1, (ten_full k hk).2] at this
  exact this
theorem total_ten (w : World) : Calls Try.prog 12 #[planV ten, .int .u64 3, .int .i64 4] w fun e w' => e = .returned (.tuple #[.int .i64 150, .int .i64 0]) ∧ Below w.heap.size w w' := by
  have := total_any ten 3 4 (by unfold Bo.U; omega) w
  rw [ten_total, show badN ten 4 = 0 from by decide +kernel] at this
  exact this
theorem fit_ten (s v : Int) (hs : 0 ≤ s) (hv : fitV ten 3 s = v) (w : World) : Calls Try.prog 13 #[planV ten, .int .u64 3, .int .i64 s] w fun e w' => e = .returned (.tuple #[.int .i64 v, .int .i64 0]) ∧ Below w.heap.size w w' := by
  have := fit_any ten 3 s (by unfold Bo.U; omega) w
  rw [hv, show fitE ten s = 0 from by unfold fitE; rw [if_pos ⟨ten_may, hs⟩]] at this
  exact this
/-- a literal's row -/
theorem lit_ints (w : World) (l : List Int) (n : Nat) (hn : n = w.heap.size) (hl : l.length ≤ 1000000) : Ints (w.alloc (.cells (l.map i64v).toArray 2)) (.slice (some ⟨n, 0, none⟩) l.length l.length) l := by
  subst hn
  have := Sli.lit w (l.map i64v) 2 (0, 0) (by rw [List.length_map]; unfold maxLen; omega)
  rw [List.length_map] at this
  exact this
set_option maxRecDepth 100000 in
set_option maxHeartbeats 4000000 in
theorem known_any (w : World) : Calls Try.prog 8 #[] w fun e w' => e = .returned (.bool true) ∧ Below w.heap.size w w' := by
  refine calls_marks Try.func8 rfl ?_
  simp only [Try.ntmps8, List.size_toArray, List.length_cons, List.length_nil, Nat.reduceAdd, Nat.reduceSub, Array.replicate_succ, Array.replicate_zero, List.push_toArray, List.append_toArray, List.nil_append, List.cons_append]
  obtain ⟨i0, hi, hz0, hz1, hz2⟩ := info_parts Try.info2
  go_wp2_with fail
  have N0 := NumAt.new w 4 (.bool false)
  have hb0 := Below.al (Below.refl w.heap.size w) (.cells #[.bool false] 4)
  generalize hW : w.alloc (.cells #[.bool false] 4) = W0 at *
  obtain ⟨b0, hB0⟩ : ∃ b0, w.heap.size = b0 := ⟨_, rfl⟩
  rw [hB0] at N0 hb0 ⊢
  clear hW
  have hs0 : b0 < W0.heap.size := N0.lt
  go_loopw [1, 2] (fun vv n wr => ∃ (k : Nat) (v : Value), v = vv ∧ k ≤ 6 ∧ n = .int .i64 ((k : Int) + 1) ∧ OwnI (b0 + 1) wr v (tens.take k) ∧ NumAt wr b0 4 (.bool false) ∧ Below b0 w wr) (fun _ n _ => 7 - (intOf n).toNat)
  case atStart => exact ⟨0, _, rfl, by omega, rfl, by unfold OwnI; simpa using World.ownsRow_nil _ (b0 + 1) 2 1, N0, hb0⟩
  case round =>
    clear N0 hb0 hs0
    obtain ⟨k, v, rfl, hk, rfl, hO, N0, hbr⟩ := hrel
    by_cases hlt : k < 6
    · as_aux_lemma =>
      have htk : (tens.take k).length = k := by rw [List.length_take]; simp [tens]; omega
      have hst := tens_step k hlt
      have hfull := full_ten k hlt
      obtain ⟨y, hy⟩ : ∃ y, tens.getD k 0 = y := ⟨_, rfl⟩
      rw [hy] at hst hfull
      have HT := Lib.hid (And.intro htk hst)
      clear htk hst hy
      go_wp2_with fail
      refine (tenV _).mono ?_
      rintro e w1 ⟨rfl, hc1⟩
      go_wp2_with fail
      refine (hfull _).mono ?_
      clear hfull
      rintro e w2 ⟨rfl, hc2⟩
      have hbw2 := Below.call hc1 hc2
      have hO2 : OwnI (b0 + 1) w2 v (tens.take k) := own_keepAt hO (fun j hj => hbw2.block j (World.ownsRow.lt hO j hj).2)
      have hN2 := N0.keep hbw2
      have hz : b0 + 1 ≤ w2.heap.size := hN2.lt
      clear hc1 hc2
      have hO2' : w2.ownsRow (b0 + 1) 2 1 v k ((tens.take k).map i64v) := by have := hO2; unfold OwnI at this; rw [HT.out.1] at this; exact this
      go_wp2_with (at_builtin; refine wpList_app1 w2 rfl _ _ 27 rfl (b0 + 1) 2 (.int .i64 0) 8 Try.underlying27 Try.info2 (by decide) rfl hO2' (.int .i64 y) rfl rfl rfl (by omega) hz ?_; intro v' w' hown' hbel')
      refine ⟨⟨k + 1, _, rfl, by omega, by go_num, ?_, hN2.keepAt hbel' (by omega), (hbr.trans (hbw2.mono (by have := N0.lt; omega))).trans (hbel'.mono (by omega))⟩, by simp [intOf]; omega⟩
      unfold OwnI
      rw [HT.out.2, List.map_append, List.length_append, HT.out.1]
      exact hown'
    · obtain rfl : k = 6 := by omega
      have hO6 : Ints wr v [10, 20, 40, 80, 100, 100] := OwnI.ints hO
      obtain ⟨ao, ca, rfl, -, -, -⟩ := hO6.form
      clear hO
      have hn := lit_ints wr [10, 20, 40, 80, 100, 100] wr.heap.size rfl (by decide)
      have hal := Below.al (Below.refl _ wr) (.cells #[.int .i64 10, .int .i64 20, .int .i64 40, .int .i64 80, .int .i64 100, .int .i64 100] 2)
      have hO7 := hO6.keep hal
      have N1 := N0.keep hal
      clear hO6
      go_wp2_with fail
      refine (equal_eq _ _ [10, 20, 40, 80, 100, 100] _ hO7 hn (by decide)).mono ?_
      rintro e w3 ⟨rfl, hc⟩
      have N2 := N1.keep hc
      have hb3 := (hbr.trans (hal.mono (Nat.le_of_lt N0.lt))).trans (hc.mono (Nat.le_of_lt N1.lt))
      clear hal hO7 hn N0 N1 hc hbr
      go_wp2_with fail
      refine (tenV _).mono ?_
      rintro e w4 ⟨rfl, hc⟩
      have N3 := N2.keep hc
      have hb4 := hb3.trans (hc.mono (Nat.le_of_lt N2.lt))
      clear hc hb3 N2
      go_wp2_with fail
      refine (total_ten _).mono ?_
      rintro e w5 ⟨rfl, hc⟩
      have N5 := N3.keep hc
      have hb5 := hb4.trans (hc.mono (Nat.le_of_lt N3.lt))
      clear hc hb4 N3
      go_wp2_with fail
      refine (tenV _).mono ?_
      rintro e w6 ⟨rfl, hc⟩
      have N6 := N5.keep hc
      have hb6 := hb5.trans (hc.mono (Nat.le_of_lt N5.lt))
      clear hc hb5 N5
      go_wp2_with fail
      refine (fit_ten 149 3 (by omega) (ten_fit 3).1 _).mono ?_
      rintro e w7 ⟨rfl, hc⟩
      have N7 := N6.keep hc
      have hb7 := hb6.trans (hc.mono (Nat.le_of_lt N6.lt))
      clear hc hb6 N6
      go_wp2_with fail
      refine (tenV _).mono ?_
      rintro e w8 ⟨rfl, hc⟩
      have N8 := N7.keep hc
      have hb8 := hb7.trans (hc.mono (Nat.le_of_lt N7.lt))
      clear hc hb7 N7
      go_wp2_with fail
      refine (fit_ten 150 4 (by omega) (ten_fit 3).2.1 _).mono ?_
      rintro e w9 ⟨rfl, hc⟩
      have N9 := N8.keep hc
      have hb9 := hb8.trans (hc.mono (Nat.le_of_lt N8.lt))
      clear hc hb8 N8
      go_wp2_with fail
      refine (tenV _).mono ?_
      rintro e w10 ⟨rfl, hc⟩
      have N10 := N9.keep hc
      have hb10 := hb9.trans (hc.mono (Nat.le_of_lt N9.lt))
      clear hc hb9 N9
      go_wp2_with fail
      refine (fit_ten 9 0 (by omega) (ten_fit 3).2.2 _).mono ?_
      rintro e w11 ⟨rfl, hc⟩
      have N11 := N10.keep hc
      have hb11 := hb10.trans (hc.mono (Nat.le_of_lt N10.lt))
      clear hc hb10 N10
      go_wp2_with fail
      refine (all_any ⟨0, 0, 0, 0, 0⟩ 1 _).mono ?_
      rintro e w12 ⟨Bp, Bk, hBp, hBk, rfl, hP, hKk, hc⟩
      have N12 := N11.keep hc
      have hb12 := hb11.trans (hc.mono (Nat.le_of_lt N11.lt))
      have hl := N11.lt
      have hl2 := N12.lt
      clear hc hb11 N11
      go_wp2_with fail
      have hN : allN ⟨0, 0, 0, 0, 0⟩ = 0 := by decide
      refine wp_rangeFunc_N (gf := 21) (lb := #[.pointer (some ⟨Bp, 0, none⟩), .pointer (some ⟨Bk, 0, none⟩)]) rfl (enters_of Try.func21 (by kernel_rfl) rfl)
        (all_seq 8 (by omega) ⟨0, 0, 0, 0, 0⟩ 1 (by unfold Bo.U; omega) Bp Bk (fun k => False) _ (fun h => h) (fun h => h) hP hKk) (fun k hk => hk.elim) (fun _ => rfl)
        (fun k W => NumAt W b0 4 (.bool false) ∧ Below b0 w W)
        (fun c k W => False)
        (fun s A B hs hb => ⟨hs.1.keepAt hb (by omega), hs.2.trans (hb.mono (by omega))⟩)
        (fun c s A B hs hb => hs)
        ⟨N12, hb12⟩ ?a1 ?assign ?body ?done ?stop
      case assign =>
        intro l k W K hK
        have HK := Lib.hid hK
        clear hK
        simp only [allEnc]
        gi_wp2
        exact HK.out
      case body =>
        intro l k W hk
        rw [hN] at hk
        omega
      case stop => rintro D c k W hD hkN h; exact h.elim
      case done =>
        rintro D W hD ⟨N13, hb13⟩ hK
        have f13 := N13.froz
        have c13 := N13.cell
        go_wp2_with fail
        refine (may_any ⟨0, 0, 0, 0, 0⟩ _).mono ?_
        rw [show Bo.may ⟨0, 0, 0, 0, 0⟩ = false from by decide]
        rintro e w13 ⟨rfl, hc⟩
        have N14 := N13.keep hc
        have hb14 := hb13.trans (hc.mono (Nat.le_of_lt N13.lt))
        have hD2 := (hc.block D (Array.getElem?_eq_some_iff.1 hK).1).trans hK
        have c14 := N14.cell
        have f14 := N14.froz
        have N15 := N14.set (.bool true)
        clear f13 c13 N13 hc hK hb13
        go_wp2_with fail
        refine ⟨by simp, .inl ⟨_, _, rfl, run_takeDeferred (w := w13.setCell ⟨b0, 0, none⟩ (.bool true)) (by rw [Below.heap_setCell _ _ _ _ (by simp; omega)]; exact hD2), ?_⟩⟩
        have hbD := Below.putObj (Below.refl w12.heap.size (w13.setCell ⟨b0, 0, none⟩ (.bool true))) hD (.deferred none)
        have m6 := (N15.keepAt hbD (by omega)).cell
        refine ⟨.bool true, ?_, rfl, (hB0.symm ▸ (hb14.setCell (p := ⟨b0, 0, none⟩) (Nat.le_refl _) _).trans (hbD.mono (by omega)))⟩
        simp [results, Try.results8, go_sem, m6]
end Go.Proofs.Ytejaiaoiceknlaa
