/- FrameTorn: the walk. -/
import Derived.Test.YtlcnjinabfbglaaQ14

namespace Go.Proofs.Ytlcnjinabfbglaa
open Go.RowKit
set_option maxRecDepth 100000 in
set_option maxHeartbeats 2000000 in
theorem frameTorn_small (v0 v1 v2 : Value) (us : List Value) (L : List (List UInt8)) (last behind : List UInt8) (cut at_ m : Int) (w : World) (hS : Sli w v0 us) (hP : Parts w us L) (hB1 : Bts w v1 last) (hB2 : Bts w v2 behind)
    (hout : 10 < L.length ∨ 100 < last.length ∨ 20 < behind.length ∨ cut < 0 ∨ at_ < 0) :
    Calls Try.prog 9 #[v0, v1, v2, .int .i64 cut, .int .i64 at_, .int .u32 m] w fun e w' => e = .returned (.bool true) ∧ Below w.heap.size w w' := by
  obtain ⟨lo, lc, rfl, a1, a2, -, -⟩ := id hS
  rw [hP.1] at a1 hS ⊢
  obtain ⟨ao, ac, rfl, b1, b2, -⟩ := hB1.form
  obtain ⟨bo, bc, rfl, c1, c2, -⟩ := hB2.form
  unfold maxLen at a2 b2 c2
  by_cases g1 : (10 : Int) < (L.length : Int)
  · go_enter Try.func9, Try.ntmps9
    go_wp2_with (go_at_call 29; refine (known03_any _).mono ?_; rintro e w1 ⟨rfl, hb1⟩)
    go_ret
    exact ⟨rfl, hb1⟩
  by_cases g2 : (100 : Int) < (last.length : Int)
  · go_enter Try.func9, Try.ntmps9
    go_wp2_with (go_at_call 29; refine (known03_any _).mono ?_; rintro e w1 ⟨rfl, hb1⟩)
    go_ret
    exact ⟨rfl, hb1⟩
  by_cases g3 : (20 : Int) < (behind.length : Int)
  · go_enter Try.func9, Try.ntmps9
    go_wp2_with (go_at_call 29; refine (known03_any _).mono ?_; rintro e w1 ⟨rfl, hb1⟩)
    go_ret
    exact ⟨rfl, hb1⟩
  by_cases g4 : cut < 0
  · go_enter Try.func9, Try.ntmps9
    go_wp2_with (go_at_call 29; refine (known03_any _).mono ?_; rintro e w1 ⟨rfl, hb1⟩)
    go_ret
    exact ⟨rfl, hb1⟩
  · have g5 : at_ < 0 := by omega
    go_enter Try.func9, Try.ntmps9
    go_wp2_with (go_at_call 29; refine (known03_any _).mono ?_; rintro e w1 ⟨rfl, hb1⟩)
    go_ret
    exact ⟨rfl, hb1⟩
theorem Bts.nilcap {w : World} {ao : Option Addr} {n cap : Nat} {l : List UInt8} (h : Bts w (.slice ao n cap) l) : ao = none → cap = 0 := by
  obtain ⟨x, y, hv, -, -, h3⟩ := h.form
  simp only [Value.slice.injEq] at hv
  obtain ⟨rfl, -, rfl⟩ := hv
  exact h3
theorem Bts.capge {w : World} {ao : Option Addr} {n cap : Nat} {l : List UInt8} (h : Bts w (.slice ao n cap) l) : n ≤ cap := by
  obtain ⟨x, y, hv, h1, -, -⟩ := h.form
  simp only [Value.slice.injEq] at hv
  obtain ⟨rfl, rfl, rfl⟩ := hv
  exact h1
set_option maxRecDepth 100000 in
set_option maxHeartbeats 8000000 in
theorem frameTorn_main (v0 v1 v2 : Value) (us : List Value) (L : List (List UInt8)) (last behind : List UInt8) (cut at_ : Nat) (mask : BitVec 32) (w : World) (hS : Sli w v0 us) (hP : Parts w us L) (hB1 : Bts w v1 last) (hB2 : Bts w v2 behind)
    (h10 : L.length ≤ 10) (h100 : last.length ≤ 100) (h20 : behind.length ≤ 20) (hcut : cut < 9223372036854775808) (hat : at_ < 9223372036854775808) :
    Calls Try.prog 9 #[v0, v1, v2, .int .i64 (cut : Int), .int .i64 (at_ : Int), u32 mask] w fun e w' => e = .returned (.bool true) ∧ Below w.heap.size w w' := by
  obtain ⟨lo, lc, rfl, a1, a2, lz, -⟩ := id hS
  have hul := hP.1
  rw [hul] at a1 hS ⊢
  obtain ⟨ao, ac, rfl, b1, b2, az⟩ := hB1.form
  obtain ⟨bo, bc, rfl, c1, c2, bz⟩ := hB2.form
  unfold maxLen at a2 b2 c2
  have g1 : ¬ (10 : Int) < (L.length : Int) := by omega
  have g2 : ¬ (100 : Int) < (last.length : Int) := by omega
  have g3 : ¬ (20 : Int) < (behind.length : Int) := by omega
  have g4 : ¬ (cut : Int) < 0 := by omega
  have g5 : ¬ (at_ : Int) < 0 := by omega
  have h30 := fun v s w hB hl => putF_le v s w hB hl
  have hFl := Fr.frame_len100 last h100
  have hft := Fr.frames_take L
  have hfl := fun k (h : ∀ s ∈ L.take k, s.length ≤ 100) => Fr.frames_len100 (L.take k) h
  have hw1 := fun h => Fr.torn_whole L last h h100
  have hw2 := fun h => Fr.torn_cut L last h h100
  have hw3 := fun h at_ mask h1 h2 => Fr.torn_spoilt L last behind h h100 at_ mask h1 h2
  have hAll : Fr.frames Fr.ck4 (L.take L.length) = Fr.frames Fr.ck4 L := by rw [List.take_length]
  obtain ⟨A, hA⟩ : ∃ A : Nat → List UInt8, A = fun k => Fr.frames Fr.ck4 (L.take k) := ⟨_, rfl⟩
  have hA0 : A 0 = [] := by rw [hA]; rfl
  have hA1 : ∀ k, k < L.length → A (k + 1) = A k ++ Fr.frame Fr.ck4 (L.getD k []) := fun k hk => by rw [hA]; exact hft k hk
  have hAL : A L.length = Fr.frames Fr.ck4 L := by rw [hA]; exact hAll
  have hAb : ∀ k, (∀ s ∈ L.take k, s.length ≤ 100) → (A k).length ≤ 106 * (L.take k).length := fun k h => by rw [hA]; exact hfl k h
  rw [← hAL] at hw1 hw2 hw3
  clear hA hft hfl hAll hAL
  have HA1 := Lib.hid hA1
  have HAb := Lib.hid hAb
  have HW1 := Lib.hid hw1
  have HW2 := Lib.hid hw2
  have HW3 := Lib.hid hw3
  have H30 := Lib.hid h30
  clear hA1 hAb hw1 hw2 hw3 h30
  obtain ⟨N, hN⟩ : ∃ N, w.heap.size = N := ⟨_, rfl⟩
  rw [hN]
  have HN := Lib.hid hN
  clear hN
  go_enter Try.func9, Try.ntmps9
  go_wp2_with (go_at_call 29; refine (known03_any _).mono ?_; rintro e w1 ⟨rfl, hb1⟩)
  have hb1' : Below N w w1 := by rw [← HN.out]; exact hb1
  go_loopw [13, 14] (fun all i wr => ∃ k : Nat, k ≤ L.length ∧ i = .int .i64 k ∧ (∀ s ∈ L.take k, s.length ≤ 100) ∧ Below N w wr ∧ OwnB N wr all (A k)) (fun _ i _ => L.length - (intOf i).toNat)
  case atStart => exact ⟨0, Nat.zero_le _, rfl, by simp, hb1', by rw [hA0]; exact World.ownsRow_nil _ _ _ _⟩
  case round =>
    clear hb1 hb1' hA0
    obtain ⟨k, hk, rfl, hle, hbel, hown⟩ := hrel
    have hAk := HAb.out k hle
    rw [List.length_take] at hAk
    have hbelw : Below w.heap.size w wr := by rw [HN.out]; exact hbel
    have hNz : N ≤ wr.heap.size := by rw [← HN.out]; exact hbelw.size
    by_cases hlt : k < L.length
    · as_aux_lemma =>
      have hlt' : (k : Int) < (L.length : Int) := by omega
      obtain ⟨lb, lf, u, rfl, -, cu, tu⟩ := Parts.at (hS.keep hbelw) (hP.keep hbelw) hlt
      have h1 := HA1.out k hlt
      have hstep : ∀ s, s = L.getD k [] → s.length ≤ 100 → ∀ x ∈ L.take (k + 1), x.length ≤ 100 := fun s hs hl x hx => by
        rw [List.take_succ_eq_append_getElem hlt] at hx
        rcases List.mem_append.1 hx with hx | hx
        · exact hle x hx
        · obtain rfl : x = L[k] := by simpa using hx
          rw [hs] at hl
          simpa [hlt] using hl
      have HS2 := Lib.hid hstep
      generalize hs : L.getD k [] = s at tu h1 HS2
      obtain ⟨uo, uc, rfl, -, -, -⟩ := tu.form
      have HA2 := Lib.hid h1
      clear h1 hs hstep
      by_cases hs100 : s.length ≤ 100
      · have hs' : ¬ (100 : Int) < (s.length : Int) := by omega
        have hfs := Fr.frame_len100 s hs100
        have h4 := H30.out _ s _ tu (by omega)
        generalize Fr.frame Fr.ck4 s = f at h4 hfs HA2
        go_wp2_with (first
          | (go_at_call 30; refine h4.mono ?_; rintro e w2 ⟨v2', rfl, hb2, ho2⟩; obtain ⟨fo, fc, rfl, -, -⟩ := own_form ho2; have hown2 := hown.keep hb2)
          | (at_builtin; refine wpList_appB w2 rfl _ _ rfl N hown2 ho2.bts rfl (by first | rfl | (rw [hfs]; rfl)) (by omega) (Nat.le_trans hNz hb2.size) ?_; intro ao' ac' w3 ho3 hg3 hb3; clear hown2))
        refine ⟨⟨k + 1, by omega, by go_num, HS2.out s rfl hs100, (hbel.trans (hb2.mono hNz)).trans hb3, ?_⟩, by simp [intOf]; omega⟩
        rw [HA2.out]
        rw [hfs] at ho3
        exact ho3
      · have hs' : (100 : Int) < (s.length : Int) := by omega
        go_wp2_with fail
        go_ret
        exact ⟨rfl, hbel⟩
    · obtain rfl : k = L.length := by omega
      rw [List.take_length] at hle
      rw [Nat.min_self] at hAk
      have h4 := H30.out _ last _ (hB1.keep hbelw) (by omega)
      have hw1 := HW1.out hle
      have hw2 := HW2.out hle
      have hw3 := HW3.out hle
      clear HW1 HW2 HW3 HA1 HAb H30
      generalize A L.length = Z at *
      generalize Fr.frame Fr.ck4 last = F at *
      have HW1 := Lib.hid hw1
      have HW2 := Lib.hid hw2
      have HW3 := Lib.hid hw3
      clear hw1 hw2 hw3
      obtain ⟨zo, zc, rfl, -, -⟩ := own_form hown
      go_wp2_with (first
        | (go_at_call 30; refine h4.mono ?_; rintro e w2 ⟨v2', rfl, hb2, hoF⟩; obtain ⟨fo, fc, rfl, -, -⟩ := own_form hoF; rw [hFl] at hoF; have hZ2 := hown.bts.keep hb2; have bel2 := hbel.trans (hb2.mono hNz))
        | (at_builtin; refine wpList_appB (w2.alloc (.cells #[] 5)) rfl _ _ rfl w2.heap.size (own_lit0 w2) (hZ2.keep (Below.al (Below.refl _ _) _)) rfl rfl (by simp; omega) (by simp) ?_; intro ao3 ac3 w3 ho3 hg3 hb3; rw [List.length_nil, Nat.zero_add, List.nil_append] at ho3; have b23 := (Below.al (Below.refl w2.heap.size w2) (.cells #[] 5)).trans hb3; clear hb3 hg3)
        | (at_builtin; refine wpList_appB w3 rfl _ _ rfl w2.heap.size ho3 (hoF.bts.keep b23) rfl rfl (by omega) b23.size ?_; intro ao4 ac4 w4 ho4 hg4 hb4; rw [hFl] at ho4; have b24 := b23.trans hb4; clear hb4 hg4 ho3 b23))
      have hfF : Bts w4 (.slice fo (last.length + 6) fc) F := hoF.bts.keep b24
      have b04 : Below N w w4 := bel2.trans (b24.mono (by rw [← HN.out] at *; exact Nat.le_trans hbelw.size hb2.size))
      refine (scan_any _ (Z ++ F) _ ho4.bts (by rw [List.length_append]; omega)).mono ?_
      rintro e w5 ⟨v5, us5, rfl, r5, hc5⟩
      rw [HW1.out] at r5 ⊢
      obtain ⟨o5, q5, rfl, -, -⟩ := own_form r5.own
      have b05 : Below N w w5 := b04.trans (hc5.mono (by have := hb2.size; have := b24.size; omega))
      have hr5 := Below.call hb2 (b24.trans (hc5.mono b24.size))
      have oF5 := hoF.keep (b24.trans (hc5.mono b24.size))
      have hZ5 := hZ2.keep (b24.trans (hc5.mono b24.size))
      have hlen5 : (L ++ [last]).length = L.length + 1 := by simp
      rw [hlen5] at r5 ⊢
      clear ho4 hc5 b24 hfF hoF hZ2 b04
      have hg5 : ((Z.length + F.length : Nat) : Int) = (Z.length : Int) + ((last.length : Int) + 6) := by omega
      simp only [hg5]
      go_wp2_with (first
        | (at_builtin; refine wpList_app (w5.alloc (.cells #[] 22)) rfl _ _ 47 rfl w5.heap.size 22 (.slice none 0 0) 24 Try.underlying47 Try.info22 (by decide) rfl (own_lit0R w5) rfl lo L.length lc us rfl lz hul (Sli.lie (hS.keep (Below.al (by rw [HN.out]; exact b05) _))) hP.one (by omega) (by simp) ?_; intro v6 w6 ho6 hg6 hb6; have b56 := (Below.al (Below.refl w5.heap.size w5) (.cells #[] 22)).trans hb6; clear hb6 hg6)
        | (at_builtin; refine wpList_app1 w6 rfl _ _ 47 rfl w5.heap.size 22 (.slice none 0 0) 24 Try.underlying47 Try.info22 (by decide) rfl ho6 (.slice ao last.length ac) rfl rfl rfl (by omega) b56.size ?_; intro v7 w7 ho7 hb7; have b57 := b56.trans hb7; clear hb7 ho6 b56))
      have b05w : Below w.heap.size w w5 := by rw [HN.out]; exact b05
      have b57w := Below.call b05w b57
      have r7 := r5.keep b57
      refine (same_any _ _ us5 ([] ++ us ++ [.slice ao last.length ac]) (L ++ [last]) (L ++ [last]) w7 r7.sli.1 r7.sli.2 (Sli.own ho7) ((hP.keep b57w).snoc (hB1.keep b57w))).mono ?_
      rintro e w8 ⟨rfl, hc8⟩
      rw [beq_self_eq_true]
      have b58 := Below.call b57 hc8
      have b08 := Below.call b57w hc8
      have hr8 := Below.call hr5 b58
      have oF8 := oF5.keep b58
      have hZ8 := hZ5.keep b58
      clear r5 r7 ho7 hc8 b57 b58 b57w oF5 hZ5 b05 b05w hr5
      obtain ⟨c, hcc⟩ : ∃ c, c = cut % (last.length + 6) := ⟨_, rfl⟩
      have hcF : c < F.length := by rw [hcc, hFl]; exact Nat.mod_lt _ (by omega)
      have hcI : (cut : Int) % ((last.length : Int) + 6) = (c : Int) := by rw [hcc]; simp
      have hcT : (cut : Int).tmod ((last.length : Int) + 6) = (c : Int) := by rw [Int.tmod_eq_emod_of_nonneg (by omega)]; exact hcI
      have hne : ¬ ((last.length : Int) + 6 = 0) := by omega
      have hlc : (F.take c).length = c := by rw [List.length_take]; omega
      obtain ⟨V, hV, hBV⟩ := cut_h (P := Try.prog) Try.underlying22 Try.size5 fo (last.length + 6) fc c (by have := Bts.capge oF8.bts; omega)
      have hV8 : ∀ w', Below w8.heap.size w8 w' → Bts w' V (F.take c) := fun w' hw' => Bts.take (hBV w' _ (oF8.bts.keep hw') (by rw [List.length_map]; omega))
      obtain ⟨vo, vc, rfl, -, -, -⟩ := (hV8 w8 (Below.refl _ _)).form
      rw [hlc] at hV hV8
      clear hBV hcc
      go_wp2_with fail
      refine wp_region_held_drew (S := fun w' => Below w8.heap.size w8 w') (by kernel_rfl) (Below.refl _ _).drew (fun h0 => ?_)
      refine wpAnyH_take (i := 1) (oi := { dst := _, op := _, type := _, pos := _, after := _, guard := _ }) (v := ?va1) rfl (by kernel_rfl) (by kernel_rfl) (by kernel_rfl) (fun _ _ _ h => h) (Or.inl ⟨by rfl, ?ya1⟩) (by assumption) ?ra1; (case ya1 => intro w hSw; go_simp <;> with_reducible rfl); simp only [Act.put, List.setIfInBounds_toArray, List.set_cons_zero, List.set_cons_succ]
      refine wpAnyH_take (i := 3) (oi := { dst := _, op := _, type := _, pos := _, after := _, guard := _ }) (v := ?va3) rfl (by kernel_rfl) (by kernel_rfl) (by kernel_rfl) (fun _ _ _ h => h) (Or.inl ⟨by rfl, ?ya3⟩) (by assumption) ?ra3; (case ya3 => intro w hSw; go_simp <;> with_reducible rfl); simp only [Act.put, List.setIfInBounds_toArray, List.set_cons_zero, List.set_cons_succ]
      refine wpAnyH_take (i := 4) (oi := { dst := _, op := _, type := _, pos := _, after := _, guard := _ }) (v := ?va4) rfl (by kernel_rfl) (by kernel_rfl) (by kernel_rfl) (fun _ _ _ h => h) (Or.inl ⟨by rfl, ?ya4⟩) (by assumption) ?ra4; (case ya4 => intro w hSw; go_simp <;> with_reducible rfl); simp only [Act.put, List.setIfInBounds_toArray, List.set_cons_zero, List.set_cons_succ]
      refine wpAnyH_take (i := 5) (oi := { dst := _, op := _, type := _, pos := _, after := _, guard := _ }) (v := ?va5) rfl (by kernel_rfl) (by kernel_rfl) (by kernel_rfl) (fun _ _ _ h => h) (Or.inl ⟨by rfl, ?ya5⟩) (by assumption) ?ra5; (case ya5 => intro w hSw; go_simp <;> with_reducible rfl); simp only [Act.put, List.setIfInBounds_toArray, List.set_cons_zero, List.set_cons_succ]
      refine wpAnyH_take (i := 6) (oi := { dst := _, op := _, type := _, pos := _, after := _, guard := _ }) (v := ?va6) rfl (by kernel_rfl) (by kernel_rfl) (by kernel_rfl) (fun _ _ _ h => h) (Or.inl ⟨by rfl, ?ya6⟩) (by assumption) ?ra6; (case ya6 => intro w hSw; go_simp <;> with_reducible rfl); simp only [Act.put, List.setIfInBounds_toArray, List.set_cons_zero, List.set_cons_succ]
      refine wpAnyH_take (i := 7) (oi := { dst := _, op := _, type := _, pos := _, after := _, guard := _ }) (v := ?va7) rfl (by kernel_rfl) (by kernel_rfl) (by kernel_rfl) (fun _ _ _ h => h) (Or.inl ⟨by rfl, ?ya7⟩) (by assumption) ?ra7; (case ya7 => intro w hSw; go_simp <;> with_reducible rfl); simp only [Act.put, List.setIfInBounds_toArray, List.set_cons_zero, List.set_cons_succ]
      refine wpAnyH_take (i := 8) (oi := { dst := _, op := _, type := _, pos := _, after := _, guard := _ }) (v := ?va8) rfl (by kernel_rfl) (by kernel_rfl) (by kernel_rfl) (fun _ _ _ h => h) (Or.inl ⟨by rfl, ?ya8⟩) (by assumption) ?ra8; (case ya8 => intro w hSw; go_simp <;> with_reducible rfl); simp only [Act.put, List.setIfInBounds_toArray, List.set_cons_zero, List.set_cons_succ]
      refine wpAnyH_ready (rs := [0]) (by kernel_rfl) (by simp) ?_
      refine AllReadyH.cons (o := { dst := _, op := _, type := _, pos := _, after := _, guard := _ }) rfl (fun K hK => ?_) AllReadyH.nil
      go_simp
      refine hK.out _ _ (Below.al (Below.refl _ w8) _).drew (fun j1 => ?_)
      clear hK K
      refine wpAnyH_ready (rs := [2]) (by kernel_rfl) (by simp) ?_
      refine AllReadyH.cons (o := { dst := _, op := _, type := _, pos := _, after := _, guard := _ }) rfl (fun K hK => ?_) AllReadyH.nil
      rw [if_pos (show Region.wanted _ _ = true from rfl)]
      refine wp_app _ _ _ 22 rfl w8.heap.size 5 (.int .u8 0) 1 Try.underlying22 Try.info5 (by decide) rfl (World.ownsRow.drew (own_lit0 w8)) rfl zo Z.length zc (Z.map by8) rfl (Bts.nilcap hZ8) (List.length_map ..) (Sli.lie (hZ8.keep j1)) (by8_one _) (by simp; omega) j1.size ?_
      intro v9 w9 ho9 _ j2
      replace j2 := j1.trans j2
      simp only [Act.put, List.setIfInBounds_toArray, List.set_cons_zero, List.set_cons_succ]
      refine hK.out _ _ j2 (fun _ => ?_)
      clear hK K j1
      refine wpAnyH_ready (rs := [9]) (by kernel_rfl) (by simp) ?_
      refine AllReadyH.cons (o := { dst := _, op := _, type := _, pos := _, after := _, guard := _ }) rfl (fun K hK => ?_) AllReadyH.nil
      rw [if_pos (show Region.wanted _ _ = true from rfl)]
      refine wp_app _ _ _ 22 rfl w8.heap.size 5 (.int .u8 0) 1 Try.underlying22 Try.info5 (by decide) rfl ho9 rfl vo c vc ((F.take c).map by8) rfl (Bts.nilcap (hV8 w8 (Below.refl _ _))) (by rw [List.length_map, hlc]) (Sli.lie (hV8 w9 j2)) (by8_one _) (by simp; omega) j2.size ?_
      intro v10 w10 ho10 _ j3
      replace j3 := j2.trans j3
      simp only [Act.put, List.setIfInBounds_toArray, List.set_cons_zero, List.set_cons_succ]
      refine hK.out _ _ j3 (fun _ => ?_)
      clear hK K j2 ho9
      have hB10 : Bts w10 v10 (Z ++ F.take c) := by
        have h := Sli.own ho10
        unfold Bts
        rw [List.map_append]
        simpa using h
      refine wpAnyH_ready (rs := [10]) (by kernel_rfl) (by simp) ?_
      refine AllReadyH.cons (o := { dst := _, op := _, type := _, pos := _, after := _, guard := _ }) rfl (fun K hK => ?_) AllReadyH.nil
      go_simp
      refine (scan_any _ (Z ++ F.take c) _ hB10 (by rw [List.length_append, hlc]; omega)).mono ?_
      rintro e w11 ⟨v11, us11, rfl, r11, hc11⟩
      rw [HW2.out c hcF] at r11 ⊢
      have j4 : Below w8.heap.size w8 w11 := Below.call j3 hc11
      refine hK.out _ _ j4 (fun _ => ?_)
      clear hK K j3 hc11 hB10 ho10
      refine wpAnyH_take (i := 11) (oi := { dst := _, op := _, type := _, pos := _, after := _, guard := _ }) (v := ?va11) rfl (by kernel_rfl) (by kernel_rfl) (by kernel_rfl) (fun _ _ _ h => h) (Or.inl ⟨by rfl, ?ya11⟩) (by assumption) ?ra11; (case ya11 => intro w hSw; go_simp <;> with_reducible rfl); simp only [Act.put, List.setIfInBounds_toArray, List.set_cons_zero, List.set_cons_succ]
      refine wpAnyH_take (i := 12) (oi := { dst := _, op := _, type := _, pos := _, after := _, guard := _ }) (v := ?va12) rfl (by kernel_rfl) (by kernel_rfl) (by kernel_rfl) (fun _ _ _ h => h) (Or.inl ⟨by rfl, ?ya12⟩) (by assumption) ?ra12; (case ya12 => intro w hSw; go_simp <;> with_reducible rfl); simp only [Act.put, List.setIfInBounds_toArray, List.set_cons_zero, List.set_cons_succ]
      refine wpAnyH_take (i := 13) (oi := { dst := _, op := _, type := _, pos := _, after := _, guard := _ }) (v := ?va13) rfl (by kernel_rfl) (by kernel_rfl) (by kernel_rfl) (fun _ _ _ h => h) (Or.inl ⟨by rfl, ?ya13⟩) (by assumption) ?ra13; (case ya13 => intro w hSw; go_simp <;> with_reducible rfl); simp only [Act.put, List.setIfInBounds_toArray, List.set_cons_zero, List.set_cons_succ]
      refine wpAnyH_take (i := 14) (oi := { dst := _, op := _, type := _, pos := _, after := _, guard := _ }) (v := ?va14) rfl (by kernel_rfl) (by kernel_rfl) (by kernel_rfl) (fun _ _ _ h => h) (Or.inl ⟨by rfl, ?ya14⟩) (by assumption) ?ra14; (case ya14 => intro w hSw; go_simp <;> with_reducible rfl); simp only [Act.put, List.setIfInBounds_toArray, List.set_cons_zero, List.set_cons_succ]
      refine wpAnyH_take (i := 15) (oi := { dst := _, op := _, type := _, pos := _, after := _, guard := _ }) (v := ?va15) rfl (by kernel_rfl) (by kernel_rfl) (by kernel_rfl) (fun _ _ _ h => h) (Or.inl ⟨by rfl, ?ya15⟩) (by assumption) ?ra15; (case ya15 => intro w hSw; go_simp <;> with_reducible rfl); simp only [Act.put, List.setIfInBounds_toArray, List.set_cons_zero, List.set_cons_succ]
      refine wpAnyH_done (by kernel_rfl) ?_ _
      go_wp2_with fail
      have b011 := Below.call b08 j4
      refine (same_any _ _ us11 us L L _ r11.sli.1 r11.sli.2 (hS.keep b011) (hP.keep b011)).mono ?_
      rintro e w12 ⟨rfl, hc12⟩
      rw [beq_self_eq_true]
      have j5 := Below.call j4 hc12
      have b012 := Below.call b08 j5
      have oF12 := oF8.keep j5
      have hr12 := Below.call hr8 j5
      clear r11 hc12 j4 j5 b011 b08 oF8 hr8 hV hV8 hZ8 hcI hcT hne hlc hcF h0
      obtain ⟨T, hTT⟩ : ∃ T, T = at_ % (8 * last.length + 1) := ⟨_, rfl⟩
      have hTb : T ≤ 8 * last.length := by rw [hTT]; have := Nat.mod_lt at_ (show 0 < 8 * last.length + 1 by omega); omega
      have hTI : (at_ : Int) % (8 * ((last.length : Int) + 4) - 31) = (T : Int) := by rw [hTT]; push_cast; congr 1; omega
      clear hTT
      obtain ⟨g, fc', sp, hfv, hgb, hgl, hgm, hrow⟩ := own_row oF12 (by omega)
      obtain ⟨rfl, -, rfl⟩ : fo = some ⟨g, 0, none⟩ ∧ F.length = last.length + 6 ∧ fc = fc' := by
        simp only [Value.slice.injEq] at hfv
        exact ⟨hfv.1, hFl, hfv.2.2⟩
      clear hfv
      go_wp2_with fail
      rw [hTI]
      have HROW := Lib.hid hrow
      clear hTI hrow oF12
      obtain ⟨wq, rfl⟩ : ∃ wq, wq = wr := ⟨_, rfl⟩
      go_loopw [22] (fun i wx => ∃ k : Nat, k ≤ 32 ∧ i = .int .i64 k ∧ wx.heap[g]? = some (.cells ((Crc.tb F (T + 16) mask k).map by8 ++ sp).toArray 5 (0, 0)) ∧ Below wq.heap.size wq wx ∧ Below w.heap.size w wx) (fun i _ => 32 - (intOf i).toNat)
      case atStart => exact ⟨0, Nat.zero_le _, rfl, HROW.out, hr12, b012⟩
      case round =>
        clear HROW hr12 b012
        obtain ⟨k, hk, rfl, hrow, hrx, hbx⟩ := hrel
        by_cases hlk : k < 32
        · as_aux_lemma =>
          have hdk : decide ((k : Int) < 32) = true := by simp; omega
          have hjl : 2 + (T + k) / 8 < F.length := by omega
          obtain ⟨hc, hf, hst⟩ := byte_row hrow (j := 2 + (T + k) / 8) (by rw [Crc.tb_len]; exact hjl)
          have hbo := bit_of mask k
          have hU0 := U_lo mask
          have hU1 := U_hi mask
          have hjz : (2 : Int) + ((T : Int) + (k : Int)) / 8 < (last.length : Int) + 6 := by omega
          cases hm : mask.getLsbD k with
          | true =>
            rw [hm] at hbo
            have hb1' : (bits .and .u32 (U mask / 2 ^ k) 1 == 1) = true := by rw [hbo]; rfl
            have hstep : Crc.tb F (T + 16) mask (k + 1) = (Crc.tb F (T + 16) mask k).set (2 + (T + k) / 8) (Crc.turnBit ((Crc.tb F (T + 16) mask k).getD (2 + (T + k) / 8) 0) ((T + k) % 8)) := by
              rw [Crc.tb, if_pos hm, show (T + 16 + k) / 8 = 2 + (T + k) / 8 from by omega, show (T + 16 + k) % 8 = (T + k) % 8 from by omega]
            obtain ⟨x, hx⟩ : ∃ x, x = (Crc.tb F (T + 16) mask k).getD (2 + (T + k) / 8) 0 := ⟨_, rfl⟩
            rw [← hx] at hc hstep
            have hv := turn_val x (T + k)
            have HX := Lib.hid (show (wr.setCell ⟨g, 2 + (T + k) / 8, none⟩ (by8 (Crc.turnBit x ((T + k) % 8)))).heap[g]? = some (.cells ((Crc.tb F (T + 16) mask (k + 1)).map by8 ++ sp).toArray 5 (0, 0)) by rw [hstep]; exact hst _)
            clear hrow hst hbo hx hstep hm
            go_wp2_with fail
            exact ⟨⟨k + 1, by omega, by go_num, HX.out, hrx.setCell (p := ⟨g, 2 + (T + k) / 8, none⟩) hgb _, hbx.setCell (p := ⟨g, 2 + (T + k) / 8, none⟩) (by show w.heap.size ≤ g; rw [HN.out]; omega) _⟩, by simp [intOf]; omega⟩
          | false =>
            rw [hm] at hbo
            have hb1' : (bits .and .u32 (U mask / 2 ^ k) 1 == 1) = false := by rw [hbo]; rfl
            have HX := Lib.hid (show wr.heap[g]? = some (.cells ((Crc.tb F (T + 16) mask (k + 1)).map by8 ++ sp).toArray 5 (0, 0)) by
              rw [Crc.tb, if_neg (by rw [hm]; decide)]; exact hrow)
            clear hrow hst hbo hc hf hm
            go_wp2_with fail
            exact ⟨⟨k + 1, by omega, by go_num, HX.out, hrx, hbx⟩, by simp [intOf]; omega⟩
        · obtain rfl : k = 32 := by omega
          have hFl2 : (Crc.tb F (T + 16) mask 32).length = last.length + 6 := by rw [Crc.tb_len]; exact hFl
          have hBF : Bts wr (.slice (some ⟨g, 0, none⟩) (last.length + 6) fc) (Crc.tb F (T + 16) mask 32) := by
            have h := Sli.row hrow (cap := fc) (by rw [List.length_map, hFl2]; omega) hgm
            rw [List.length_map, hFl2] at h
            exact h
          have hw3 := HW3.out T mask
          generalize Crc.tb F (T + 16) mask 32 = F' at *
          have HW := Lib.hid hw3
          have hZx := hown.bts.keep hrx
          have hBh := hB2.keep hbx
          clear hrow hw3 HW3
          go_wp2_with (first
            | (at_builtin; refine wpList_appB (wr.alloc (.cells #[] 5)) rfl _ _ rfl wr.heap.size (own_lit0 wr) (hZx.keep (Below.al (Below.refl _ _) _)) rfl rfl (by simp; omega) (by simp) ?_; intro ao3 ac3 w3 ho3 hg3 hb3; rw [List.length_nil, Nat.zero_add, List.nil_append] at ho3; have b23 := (Below.al (Below.refl wr.heap.size wr) (.cells #[] 5)).trans hb3; clear hb3 hg3)
            | (at_builtin; refine wpList_appB w3 rfl _ _ rfl wr.heap.size ho3 (hBF.keep b23) rfl rfl (by omega) b23.size ?_; intro ao4 ac4 w4 ho4 hg4 hb4; rw [hFl2] at ho4; have b24 := b23.trans hb4; clear hb4 hg4 ho3 b23)
            | (at_builtin; refine wpList_appB w4 rfl _ _ rfl wr.heap.size ho4 (hBh.keep b24) rfl rfl (by rw [List.length_append]; omega) b24.size ?_; intro ao5 ac5 w5 ho5 hg5 hb5; rw [List.length_append, hFl2] at ho5; have b25 := b24.trans hb5; clear hb5 hg5 ho4 b24))
          refine (scan_any _ (Z ++ F' ++ behind) _ ho5.bts (by rw [List.length_append, List.length_append]; omega)).mono ?_
          rintro e w6 ⟨v6, us6, rfl, r6, hc6⟩
          have b06 := Below.call (Below.call hbx b25) hc6
          clear ho5 b25 hBF hZx hBh hc6
          have hUb : (U mask == 0) = decide (mask = 0#32) := U_beq mask 0#32
          by_cases hm0 : mask = 0#32
          · rw [decide_eq_true hm0] at hUb
            clear hm0
            go_wp2_with fail
            go_ret
            exact ⟨rfl, by rw [← HN.out]; exact b06⟩
          · rw [decide_eq_false hm0] at hUb
            by_cases hT32 : T + 32 ≤ 8 * last.length
            · have hgt : ¬ (8 : Int) * (last.length : Int) < (T : Int) + 32 := by omega
              rw [HW.out hT32 hm0] at r6 ⊢
              clear hm0 HW
              go_wp2_with fail
              refine (same_any _ _ us6 us L L _ r6.sli.1 r6.sli.2 (hS.keep b06) (hP.keep b06)).mono ?_
              rintro e w7 ⟨rfl, hc7⟩
              rw [beq_self_eq_true]
              have b07 := Below.call b06 hc7
              go_wp2_with fail
              go_ret
              exact ⟨rfl, by rw [← HN.out]; exact b07⟩
            · have hgt : (8 : Int) * (last.length : Int) < (T : Int) + 32 := by omega
              clear hm0
              go_wp2_with fail
              go_ret
              exact ⟨rfl, by rw [← HN.out]; exact b06⟩
theorem frameTorn_any (v0 v1 v2 : Value) (us : List Value) (L : List (List UInt8)) (last behind : List UInt8) (cut at_ m : Int) (w : World) (hS : Sli w v0 us) (hP : Parts w us L) (hB1 : Bts w v1 last) (hB2 : Bts w v2 behind)
    (h1 : (Lit.int .i64 cut).wf = true) (h2 : (Lit.int .i64 at_).wf = true) (h3 : (Lit.int .u32 m).wf = true) :
    Calls Try.prog 9 #[v0, v1, v2, .int .i64 cut, .int .i64 at_, .int .u32 m] w fun e w' => e = .returned (.bool true) ∧ Below w.heap.size w w' := by
  by_cases h : 10 < L.length ∨ 100 < last.length ∨ 20 < behind.length ∨ cut < 0 ∨ at_ < 0
  · exact frameTorn_small v0 v1 v2 us L last behind cut at_ m w hS hP hB1 hB2 h
  · obtain ⟨t, rfl⟩ := Int.eq_ofNat_of_zero_le (show 0 ≤ at_ by omega)
    obtain ⟨c, rfl⟩ := Int.eq_ofNat_of_zero_le (show 0 ≤ cut by omega)
    obtain ⟨q, rfl⟩ := u32_of_wf h3
    simp [Lit.wf, IntKind.min, IntKind.max, IntKind.signed, IntKind.bits] at h1 h2
    exact frameTorn_main v0 v1 v2 us L last behind c t q w hS hP hB1 hB2 (by omega) (by omega) (by omega) (by omega) (by omega)
end Go.Proofs.Ytlcnjinabfbglaa
