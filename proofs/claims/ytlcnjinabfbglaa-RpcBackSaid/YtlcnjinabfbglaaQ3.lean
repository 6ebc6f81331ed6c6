/- The reference's Take. -/
import Derived.Test.YtlcnjinabfbglaaQ2
import Derived.Test.YtlcnjinabfbglaaPk4

namespace Go.Proofs.Ytlcnjinabfbglaa
open Go.RowKit
theorem wrap64 (z : Int) : IntKind.u64.wrap z = z % 18446744073709551616 := rfl
set_option maxRecDepth 100000 in
set_option maxHeartbeats 4000000 in
theorem refTake_any (v : Value) (l : List UInt8) (at_ : Nat) (w : World) (hB : Bts w v l) (hat : at_ ≤ l.length) (hl : l.length ≤ 140737488351232) :
    Calls Try.prog 78 #[v, .int .i64 (at_ : Int)] w fun e w' => e = .returned (takeV (Pk.take l at_)) ∧ Below w.heap.size w w' := by
  obtain ⟨ao, cap, rfl, h1, h2, h3⟩ := hB.form
  unfold maxLen at h2
  have h4 : ¬ (at_ : Int) < 0 := by omega
  have h5 : ¬ (l.length : Int) < (at_ : Int) := by omega
  obtain ⟨R, hR⟩ : ∃ R, takeV (Pk.take l at_) = R := ⟨_, rfl⟩
  rw [hR]
  have hend := Pk.take_end l at_
  have hnev := Pk.take_never l at_
  have hdl : (l.drop at_).length = l.length - at_ := List.length_drop ..
  have hdg : ∀ k, l.getD (at_ + k) 0 = (l.drop at_).getD k 0 := fun k => by simp [List.getD_eq_getElem?_getD]
  obtain ⟨d, hd⟩ : ∃ d, l.drop at_ = d := ⟨_, rfl⟩
  rw [hd] at hend hnev hdl
  simp only [hd] at hdg
  have HD := Lib.hid hd
  have HE := Lib.hid hend
  have HN := Lib.hid hnev
  have HG := Lib.hid hdg
  have HR := Lib.hid hR
  clear hend hnev hdg hR hd
  go_enter Try.func78, Try.ntmps78
  go_wp2_with fail
  go_loopw [7, 8, 9] (fun c ww i wr => ∃ k n q : Nat, k ≤ 10 ∧ k ≤ d.length ∧ c = u64 n ∧ ww = u64 q ∧ i = .int .i64 ((at_ + k : Nat) : Int) ∧ Below w.heap.size w wr ∧ RowKit.Hid (n = Pk.val (d.take k) % 18446744073709551616 ∧ q = 128 ^ k % 18446744073709551616 ∧ ∀ i, i < k → 128 ≤ (d.getD i 0).toNat)) (fun _ _ i _ => at_ + 10 - (intOf i).toNat)
  case atStart => exact ⟨0, 0, 1, by omega, Nat.zero_le _, rfl, rfl, rfl, Below.refl _ _, show _ ∧ _ from ⟨rfl, rfl, by omega⟩⟩
  case round =>
    obtain ⟨k, n, q, hk10, hk, rfl, rfl, rfl, hbel, HI⟩ := hrel
    have hn := HI.out.1
    have hn64 : n < 18446744073709551616 := by omega
    have hq := HI.out.2.1
    have hq64 : q < 18446744073709551616 := by omega
    clear hn hq
    by_cases hlt : k < d.length
    · have g1 : ((at_ + k : Nat) : Int) < (l.length : Int) := by omega
      by_cases h10 : k < 10
      · have g2 : ((at_ + k : Nat) : Int) < (at_ : Int) + 10 := by omega
        obtain ⟨ba, offa, rfl, hbla, hca⟩ := Bts.at (hB.keep hbel) (by omega)
        have hcak := hca (at_ + k) (by omega)
        rw [HG.out] at hcak
        have hvn := Pk.val_next d k n q (d.getD k 0) hlt rfl HI.out.1 HI.out.2.1
        have hxe := HE.out k
        have hst := fun (h : 128 ≤ (d.getD k 0).toNat) i (hi : i < k + 1) => show 128 ≤ (d.getD i 0).toNat from by
          by_cases hik : i = k
          · subst hik; exact h
          · exact HI.out.2.2 i (by omega)
        have hbig := HI.out.2.2
        obtain ⟨V, hV, hBV⟩ := cut_lh (P := Try.prog) Try.underlying22 Try.size5 (some ⟨ba, offa, none⟩) l.length cap at_ (at_ + k + 1) (by omega) (by omega)
        have hCV : ∀ w', Below wr.heap.size wr w' → (convert 22 9 V).run Try.prog w' = .ok (.string ⟨(d.take (k + 1)).toArray⟩) w' := fun w' hw' => by
          have h := Bts.mid (hBV w' _ (hB.keep (Below.call hbel hw')) (by rw [List.length_map]; omega))
          rw [HD.out, show at_ + k + 1 - at_ = k + 1 from by omega] at h
          exact conv_str h
        simp only [Int.natCast_add, Int.cast_ofNat_Int] at hV
        have hWR : IntKind.i64.wrap ((at_ : Int) + (k : Int) + 1) = (at_ : Int) + (k : Int) + 1 := IntWalk.i64_in _ (by omega)
        generalize d.getD k 0 = x at *
        have hx256 := x.toNat_lt
        generalize hN' : (n + x.toNat % 128 * q % 18446744073709551616) % 18446744073709551616 = n' at *
        generalize hQ' : q * 128 % 18446744073709551616 = q' at *
        have hn'64 : n' < 18446744073709551616 := by omega
        have hq'64 : q' < 18446744073709551616 := by omega
        have eN : IntKind.u64.wrap ((n : Int) + IntKind.u64.wrap ((x.toNat : Int) % 128 * (q : Int))) = (n' : Int) := by
          rw [wrap64, wrap64]
          have e1 : (x.toNat : Int) % 128 * (q : Int) = ((x.toNat % 128 * q : Nat) : Int) := by simp
          rw [e1]; omega
        have eQ : IntKind.u64.wrap ((q : Int) * 128) = (q' : Int) := by rw [wrap64]; omega
        have HV := Lib.hid hvn
        have HX := Lib.hid hxe
        have HST := Lib.hid hst
        have HB := Lib.hid hbig
        clear hvn hxe hst hbig hN' hQ' hca
        by_cases h128 : x.toNat < 128
        · have hx128 : (x.toNat : Int) < 128 := by omega
          have hT := HX.out n' hat hlt HB.out h128 HV.out.1
          rw [hT] at HR
          have HT := HR
          clear hT HR
          go_wp2_with fail
          refine wp_region_held_drew (S := fun w' => Below wr.heap.size wr w') (by kernel_rfl) (Below.refl _ _).drew (fun h0 => ?_)
          refine wpAnyH_take (i := 0) (oi := { dst := _, op := _, type := _, pos := _, after := _, guard := _ }) (v := ?v0) rfl (by kernel_rfl) (by kernel_rfl) (by kernel_rfl) (fun _ _ _ h => h) (Or.inl ⟨by rfl, ?y0⟩) (by assumption) ?r0; (case y0 => intro w hSw; go_simp <;> with_reducible rfl); simp only [Act.put, List.setIfInBounds_toArray, List.set_cons_zero, List.set_cons_succ]
          refine wpAnyH_take (i := 3) (oi := { dst := _, op := _, type := _, pos := _, after := _, guard := _ }) (v := ?v3) rfl (by kernel_rfl) (by kernel_rfl) (by kernel_rfl) (fun _ _ _ h => h) (Or.inl ⟨by rfl, ?y3⟩) (by assumption) ?r3; (case y3 => intro w hSw; go_simp <;> with_reducible rfl); simp only [Act.put, List.setIfInBounds_toArray, List.set_cons_zero, List.set_cons_succ]
          refine wpAnyH_take (i := 4) (oi := { dst := _, op := _, type := _, pos := _, after := _, guard := _ }) (v := ?v4) rfl (by kernel_rfl) (by kernel_rfl) (by kernel_rfl) (fun _ _ _ h => h) (Or.inl ⟨by rfl, ?y4⟩) (by assumption) ?r4; (case y4 => intro w hSw; go_simp <;> with_reducible rfl); simp only [Act.put, List.setIfInBounds_toArray, List.set_cons_zero, List.set_cons_succ]
          refine wpAnyH_take (i := 5) (oi := { dst := _, op := _, type := _, pos := _, after := _, guard := _ }) (v := ?v5) rfl (by kernel_rfl) (by kernel_rfl) (by kernel_rfl) (fun _ _ _ h => h) (Or.inl ⟨by rfl, ?y5⟩) (by assumption) ?r5; (case y5 => intro w hSw; go_simp <;> with_reducible rfl); simp only [Act.put, List.setIfInBounds_toArray, List.set_cons_zero, List.set_cons_succ]
          refine wpAnyH_take (i := 6) (oi := { dst := _, op := _, type := _, pos := _, after := _, guard := _ }) (v := ?v6) rfl (by kernel_rfl) (by kernel_rfl) (by kernel_rfl) (fun _ _ _ h => h) (Or.inl ⟨by rfl, ?y6⟩) (by assumption) ?r6; (case y6 => intro w hSw; go_simp <;> with_reducible rfl); simp only [Act.put, List.setIfInBounds_toArray, List.set_cons_zero, List.set_cons_succ]
          refine wpAnyH_take (i := 7) (oi := { dst := _, op := _, type := _, pos := _, after := _, guard := _ }) (v := ?v7) rfl (by kernel_rfl) (by kernel_rfl) (by kernel_rfl) (fun _ _ _ h => h) (Or.inl ⟨by rfl, ?y7⟩) (by assumption) ?r7; (case y7 => intro w hSw; go_simp <;> with_reducible rfl); simp only [Act.put, List.setIfInBounds_toArray, List.set_cons_zero, List.set_cons_succ]
          refine wpAnyH_take (i := 8) (oi := { dst := _, op := _, type := _, pos := _, after := _, guard := _ }) (v := ?v8) rfl (by kernel_rfl) (by kernel_rfl) (by kernel_rfl) (fun _ _ _ h => h) (Or.inl ⟨by rfl, ?y8⟩) (by assumption) ?r8; (case y8 => intro w hSw; go_simp <;> with_reducible rfl); simp only [Act.put, List.setIfInBounds_toArray, List.set_cons_zero, List.set_cons_succ]
          refine wpAnyH_ready (rs := [1]) (by kernel_rfl) (by simp) ?_
          refine AllReadyH.cons (o := { dst := _, op := _, type := _, pos := _, after := _, guard := _ }) rfl (fun K hK => ?_) AllReadyH.nil
          go_simp
          refine (refPut_any n' _ hn'64).mono ?_
          rintro e x1 ⟨y1, rfl, hy1, hc1⟩
          have hd1 : Below wr.heap.size wr x1 := Below.call (by assumption) hc1
          refine hK.out _ _ hd1 (fun _ => ?_)
          clear hK K
          refine sharpen (S' := fun w' => Below x1.heap.size x1 w') (fun w' h => Below.call hd1 h) _ _ _ _ ?_
          have s1 : Below x1.heap.size x1 x1 := Below.refl _ _
          have f1 : ∀ w', Below x1.heap.size x1 w' → (convert 22 9 y1).run Try.prog w' = .ok (.string ⟨(Pk.put n').toArray⟩) w' := fun w' h => conv_str (hy1.bts.keep h)
          refine wpAnyH_take (i := 2) (oi := { dst := _, op := _, type := _, pos := _, after := _, guard := _ }) (v := ?v2) rfl (by kernel_rfl) (by kernel_rfl) (by kernel_rfl) (fun _ _ _ h => h) (Or.inl ⟨by rfl, ?y2⟩) (by assumption) ?r2; (case y2 => intro w hSw; go_simp <;> with_reducible rfl); simp only [Act.put, List.setIfInBounds_toArray, List.set_cons_zero, List.set_cons_succ]
          refine wpAnyH_take (i := 9) (oi := { dst := _, op := _, type := _, pos := _, after := _, guard := _ }) (v := ?v9) rfl (by kernel_rfl) (by kernel_rfl) (by kernel_rfl) (fun _ _ _ h => h) (Or.inl ⟨by rfl, ?y9⟩) (by assumption) ?r9; (case y9 => intro w hSw; go_simp <;> with_reducible rfl); simp only [Act.put, List.setIfInBounds_toArray, List.set_cons_zero, List.set_cons_succ]
          refine wpAnyH_done (by kernel_rfl) ?_ _
          go_wp2_with fail
          · rename_i hb
            have hp := eq_of_beq hb
            rw [if_pos hp] at HT
            have hV2 : Value.tuple #[.int .u64 (n' : Int), .int .i64 ((at_ : Int) + (k : Int) + 1), .int .i64 0] = R := by
              rw [← HT.out]; simp [takeV]; omega
            go_ret3
            exact ⟨ret_val hV2, Below.call hbel hd1⟩
          · rename_i hb
            have hp : ¬ Pk.put n' = d.take (k + 1) := fun h => by rw [h] at hb; simp at hb
            rw [if_neg hp] at HT
            go_ret3
            exact ⟨ret_val HT.out, Below.call hbel hd1⟩
        · have hx128 : ¬ (x.toNat : Int) < 128 := by omega
          go_wp2_with fail
          exact ⟨⟨k + 1, n', q', by omega, by omega, rfl, rfl, by go_num, hbel, show _ ∧ _ from ⟨HV.out.1, HV.out.2, HST.out (by omega)⟩⟩, by simp [intOf]; omega⟩
      · have g2 : ¬ ((at_ + k : Nat) : Int) < (at_ : Int) + 10 := by omega
        have hno := HN.out k hat (.inl (by omega)) HI.out.2.2
        rw [hno] at HR
        go_wp2_with fail
        go_ret3
        exact ⟨ret_val HR.out, hbel⟩
    · have g1 : ¬ ((at_ + k : Nat) : Int) < (l.length : Int) := by omega
      have hno := HN.out k hat (.inr (by omega)) HI.out.2.2
      rw [hno] at HR
      go_wp2_with fail
      go_ret3
      exact ⟨ret_val HR.out, hbel⟩
end Go.Proofs.Ytlcnjinabfbglaa
