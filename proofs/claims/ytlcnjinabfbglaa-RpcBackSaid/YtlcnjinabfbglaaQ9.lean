/- The reference's Scan; same. -/
import Derived.Test.YtlcnjinabfbglaaQ8
namespace Go.Proofs.Ytlcnjinabfbglaa
open Go.RowKit
set_option maxRecDepth 100000 in
set_option maxHeartbeats 2000000 in
theorem refScan_any (v : Value) (l : List UInt8) (w : World) (hB : Bts w v l) (hl : l.length ≤ 900000) :
    Calls Try.prog 33 #[v] w fun e w' => ∃ ov us, e = .returned (.tuple #[ov, .int .i64 ((Fr.scan l).2 : Int)]) ∧ RI w.heap.size w' ov us (Fr.scan l).1 ∧ Below w.heap.size w w' := by
  obtain ⟨ao, cap, rfl, h1, h2, h3⟩ := hB.form
  unfold maxLen at h2
  have hat := Fr.scan_at l
  have hend := Fr.scan_end l
  have hple := Fr.pos_le l
  have hgood := Fr.scan_good l
  rw [hgood]
  clear hgood
  obtain ⟨R, hR⟩ : ∃ R, R = (Fr.scan l).1 := ⟨_, rfl⟩
  rw [← hR] at hat hend hple ⊢
  have HA := Lib.hid hat
  have HE := Lib.hid hend
  have HP := Lib.hid hple
  clear hat hend hple hR
  go_enter Try.func33, Try.ntmps33
  go_wp2_with fail
  go_loopw [4, 5] (fun out good wr => ∃ (k : Nat) (us : List Value), k ≤ R.length ∧ good = .int .i64 (Fr.pos l k : Int) ∧ Below w.heap.size w wr ∧ RI w.heap.size wr out us (R.take k)) (fun _ good _ => l.length - (intOf good).toNat)
  case atStart => exact ⟨0, [], by omega, rfl, Below.refl _ _, RI.nil _ _⟩
  case round =>
    obtain ⟨k, us, hk, rfl, hbel, hri⟩ := hrel
    obtain ⟨hp1, hp2⟩ := HP.out k hk
    obtain ⟨V, hV, hBV⟩ := cut_l (P := Try.prog) Try.underlying22 Try.size5 ao l.length cap (Fr.pos l k) hp1
    have hD : Bts wr V (l.drop (Fr.pos l k)) := Bts.drop (hBV wr _ (hB.keep hbel) (by simp))
    have hF := refFirst_any V _ wr hD (by rw [List.length_drop]; omega)
    clear hBV hD
    by_cases hlt : k < R.length
    · obtain ⟨s, m, a1, a2, a3, a4, a5⟩ := HA.out k hlt
      rw [a1] at hF
      simp only at hF
      have HN := Lib.hid a3
      have hm : Fr.pos l k + m ≤ l.length := by omega
      have ht : R.take (k + 1) = R.take k ++ [s] := by rw [List.take_add_one, a2]; rfl
      have HT := Lib.hid ht
      have hlen : (R.take k).length = k := by rw [List.length_take]; omega
      clear a1 a2 a3 a5 ht
      go_wp2_with (first
        | (go_at_call 35; refine hF.mono ?_; rintro e w1 ⟨hc, r, rfl, hBr⟩; have hri1 := hri.keep hc; have hb1 := Below.call hbel hc; obtain ⟨rb, roff, rn, rcap, rfl, hcs⟩ := id hBr.2)
        | (at_builtin; refine wpList_appR w1 rfl _ _ rfl w.heap.size hri1 _ hBr rfl rfl (by omega) hb1.size ?_; intro v' w' hri2 ho2 hz2 hb2))
      exact ⟨⟨k + 1, _, by omega, by rw [HN.out]; go_num, hb1.trans hb2, by rw [HT.out]; exact hri2⟩, by simp [intOf]; omega⟩
    · obtain rfl : k = R.length := by omega
      rw [HE.out] at hF
      simp only at hF
      rw [List.take_length] at hri
      go_wp2_with (go_at_call 35; refine hF.mono ?_; rintro e w1 ⟨hc, rfl⟩; unfold noneFV; have hri1 := hri.keep hc; have hb1 := Below.call hbel hc)
      go_ret2
      exact ⟨_, _, rfl, hri1, hb1⟩
/-- an element of a row of rows -/
theorem Parts.at {w : World} {ao : Option Addr} {n cap : Nat} {us : List Value} {ls : List (List UInt8)} (hS : Sli w (.slice ao n cap) us) (hP : Parts w us ls) {i : Nat} (hi : i < ls.length) :
    ∃ b off u, ao = some ⟨b, off, none⟩ ∧ b < w.heap.size ∧ w.cell? ⟨b, off + i, none⟩ = some u ∧ Bts w u (ls.getD i []) := by
  obtain ⟨u, h1, h2⟩ := hP.2 i hi
  have hl := hP.1
  obtain ⟨b, off, e1, e2, e3⟩ := Sli.at hS (by omega)
  exact ⟨b, off, u, e1, e2, e3 i u h1, h2⟩
theorem rows_eq (a b : List (List UInt8)) (h : a.length = b.length) (he : ∀ j, j < a.length → a.getD j [] = b.getD j []) : a = b := by
  apply List.ext_getElem h
  intro i h1 h2
  have := he i h1
  simpa [h1, h2] using this
set_option maxRecDepth 100000 in
set_option maxHeartbeats 2000000 in
theorem same_any (va vb : Value) (usa usb : List Value) (ra rb : List (List UInt8)) (w : World) (hA : Sli w va usa) (pA : Parts w usa ra) (hB : Sli w vb usb) (pB : Parts w usb rb) :
    Calls Try.prog 36 #[va, vb] w fun e w' => e = .returned (.bool (ra == rb)) ∧ Below w.heap.size w w' := by
  obtain ⟨ao, ca, rfl, a1, a2, a3, -⟩ := id hA
  obtain ⟨bo, cb, rfl, b1, b2, b3, -⟩ := id hB
  unfold maxLen at a2 b2
  have ea := pA.1
  have eb := pB.1
  rw [ea] at a1 hA ⊢
  rw [eb] at b1 hB ⊢
  by_cases hl : ra.length = rb.length
  · have h1 : ((ra.length : Int) == (rb.length : Int)) = true := by simp; omega
    have HL := Lib.hid hl
    clear hl
    go_enter Try.func36, Try.ntmps36
    go_wp2_with fail
    go_loopw [5] (fun i wr => ∃ k : Nat, k ≤ ra.length ∧ i = .int .i64 k ∧ Below w.heap.size w wr ∧ ∀ j, j < k → ra.getD j [] = rb.getD j []) (fun i _ => ra.length - (intOf i).toNat)
    case atStart => exact ⟨0, Nat.zero_le _, rfl, Below.refl _ _, by omega⟩
    case round =>
      obtain ⟨k, hk, rfl, hbel, hsame⟩ := hrel
      by_cases hlt : k < ra.length
      · have hlt' : (k : Int) < (ra.length : Int) := by omega
        have hltb' : (k : Int) < (rb.length : Int) := by have := HL.out; omega
        obtain ⟨ba, offa, ua, rfl, hbla, hca, hta⟩ := Parts.at (hA.keep hbel) (pA.keep hbel) hlt
        obtain ⟨bb, offb, ub, rfl, hblb, hcb, htb⟩ := Parts.at (hB.keep hbel) (pB.keep hbel) (show k < rb.length by have := HL.out; omega)
        have cva := conv_str (Sli.drew hta)
        have cvb := conv_str (Sli.drew htb)
        obtain ⟨x, hx⟩ : ∃ x, x = ra.getD k [] := ⟨_, rfl⟩
        obtain ⟨y, hy⟩ : ∃ y, y = rb.getD k [] := ⟨_, rfl⟩
        rw [← hx] at cva hta
        rw [← hy] at cvb htb
        obtain ⟨xo, xc, rfl, -, -, -⟩ := hta.form
        obtain ⟨yo, yc, rfl, -, -, -⟩ := htb.form
        have HX := Lib.hid hx
        have HY := Lib.hid hy
        have HS := Lib.hid hsame
        clear hx hy hsame hta htb
        cases hxy : (x == y) with
        | true =>
          have HXY := Lib.hid (eq_of_beq hxy)
          go_wp2_with fail
          go_region
          all_goals go_wp2_with fail
          all_goals exact ⟨⟨k + 1, by omega, by go_num, hbel.drew, fun j hj => by
            by_cases hjk : j = k
            · subst hjk; rw [← HX.out, ← HY.out]; exact HXY.out
            · exact HS.out j (by omega)⟩, by simp [intOf]; omega⟩
        | false =>
          have hab : (ra == rb) = false := by
            rw [beq_eq_false_iff_ne]
            rintro rfl
            rw [HX.out, HY.out] at hxy
            simp at hxy
          have HAB := Lib.hid hab
          clear hab
          go_wp2_with fail
          go_region
          all_goals go_wp2_with fail
          all_goals go_ret
          all_goals exact ⟨ret_bool HAB.out.symm, hbel.drew⟩
      · have hkn : k = ra.length := by omega
        subst hkn
        have hab : (ra == rb) = true := by
          rw [beq_iff_eq]
          exact rows_eq ra rb HL.out hsame
        have HAB := Lib.hid hab
        clear hab hsame
        go_wp2_with fail
        go_ret
        exact ⟨ret_bool HAB.out.symm, hbel⟩
  · have h1 : ((ra.length : Int) == (rb.length : Int)) = false := by simp; omega
    have hab : (ra == rb) = false := by
      rw [beq_eq_false_iff_ne]
      rintro rfl
      exact hl rfl
    rw [hab]
    clear hab hl
    go_enter Try.func36, Try.ntmps36
    go_wp2_with fail
    go_ret
    exact ⟨rfl, Below.refl _ _⟩
end Go.Proofs.Ytlcnjinabfbglaa
