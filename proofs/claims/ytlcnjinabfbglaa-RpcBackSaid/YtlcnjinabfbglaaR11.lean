/- Whether rows of entries are the same: the reference's. -/
import Derived.Test.YtlcnjinabfbglaaR10
namespace Go.Proofs.Ytlcnjinabfbglaa
open Go.RowKit
set_option maxRecDepth 100000 in
set_option maxHeartbeats 2000000 in
theorem refAll_any (va vb : Value) (xs ys : List EV) (w : World) (hA : Ents w va xs) (hB : Ents w vb ys) :
    Calls Try.prog 70 #[va, vb] w fun e w' => e = .returned (.bool (decide (xs.map EV.ent = ys.map EV.ent))) ∧ Below w.heap.size w w' := by
  obtain ⟨ao, ca, rfl, a1, a2, a3⟩ := hA.form
  obtain ⟨bo, cb, rfl, b1, b2, b3⟩ := hB.form
  unfold maxLen at a2 b2
  by_cases hl : xs.length = ys.length
  · have h1 : ((xs.length : Int) == (ys.length : Int)) = true := by simp; omega
    have HL := Lib.hid hl
    clear hl
    go_enter Try.func70, Try.ntmps70
    go_wp2_with fail
    rw [show ((xs.length : Int) != (ys.length : Int)) = false from by have := HL.out; simp; omega]
    go_loopw [5] (fun i wr => ∃ k : Nat, k ≤ xs.length ∧ i = .int .i64 k ∧ Below w.heap.size w wr ∧ ∀ j, j < k → (xs.map EV.ent)[j]? = (ys.map EV.ent)[j]?) (fun i _ => xs.length - (intOf i).toNat)
    case atStart => exact ⟨0, Nat.zero_le _, rfl, Below.refl _ _, by omega⟩
    case round =>
      obtain ⟨k, hk, rfl, hbel, hsame⟩ := hrel
      by_cases hlt : k < xs.length
      · have hlt' : (k : Int) < (xs.length : Int) := by omega
        have hltb' : (k : Int) < (ys.length : Int) := by have := HL.out; omega
        have hx : xs[k]? = some xs[k] := List.getElem?_eq_getElem hlt
        have hy : ys[k]? = some (ys[k]'(by omega)) := List.getElem?_eq_getElem (by omega)
        obtain ⟨ba, offa, rfl, hba, c0, c1, c2, hEx⟩ := Ents.at (hA.keep hbel) hx
        generalize xs[k] = x at *
        obtain ⟨vo, vc, hv, -⟩ := Bts.form hEx.1
        rw [hv] at c2
        obtain ⟨bb, offb, rfl, hbb, d0, d1, d2, hEy⟩ := Ents.at (hB.keep hbel) hy
        generalize ys[k]'(by omega) = y at *
        obtain ⟨uo, uc, hu, -⟩ := Bts.form hEy.1
        rw [hu] at d2
        have hW := fun w' (hw : Below wr.heap.size wr w') => refWalSame_any x y w' (hEx.keep hw) (hEy.keep hw)
        unfold entV at hW
        rw [hv, hu] at hW
        have HS := Lib.hid hsame
        have HN := Lib.hid (ents_not xs ys k x y hx hy)
        have hxy : Rp.sameE x.ent y.ent = true → (xs.map EV.ent)[k]? = (ys.map EV.ent)[k]? := fun h => by
          rw [List.getElem?_map, List.getElem?_map, hx, hy, Option.map_some, Option.map_some, (Rp.sameE_iff _ _).1 h]
        clear hsame hx hy hEx hEy
        cases hq : Rp.sameE x.ent y.ent with
        | true =>
          rw [hq] at hW
          have HX := Lib.hid (hxy hq)
          clear hxy hq HN
          go_wp2_with fail
          refine wp_region_held_drew (S := fun w' => Below wr.heap.size wr w') (by kernel_rfl) (Below.refl _ _).drew (fun h0 => ?_)
          refine wpAnyH_take (i := 0) (oi := { dst := _, op := _, type := _, pos := _, after := _, guard := _ }) (v := ?va0) rfl (by kernel_rfl) (by kernel_rfl) (by kernel_rfl) (fun _ _ _ h => h) (Or.inl ⟨by rfl, ?ya0⟩) (by assumption) ?ra0; (case ya0 => intro w hSw; have g0 := (hSw.cell hba).trans c0; have g1 := (hSw.cell hba).trans c1; have g2 := (hSw.cell hba).trans c2; have g3 := (hSw.cell hbb).trans d0; have g4 := (hSw.cell hbb).trans d1; have g5 := (hSw.cell hbb).trans d2; go_simp <;> with_reducible rfl); simp only [Act.put, List.setIfInBounds_toArray, List.set_cons_zero, List.set_cons_succ]
          refine wpAnyH_take (i := 1) (oi := { dst := _, op := _, type := _, pos := _, after := _, guard := _ }) (v := ?va1) rfl (by kernel_rfl) (by kernel_rfl) (by kernel_rfl) (fun _ _ _ h => h) (Or.inl ⟨by rfl, ?ya1⟩) (by assumption) ?ra1; (case ya1 => intro w hSw; have g0 := (hSw.cell hba).trans c0; have g1 := (hSw.cell hba).trans c1; have g2 := (hSw.cell hba).trans c2; have g3 := (hSw.cell hbb).trans d0; have g4 := (hSw.cell hbb).trans d1; have g5 := (hSw.cell hbb).trans d2; go_simp <;> with_reducible rfl); simp only [Act.put, List.setIfInBounds_toArray, List.set_cons_zero, List.set_cons_succ]
          refine wpAnyH_take (i := 2) (oi := { dst := _, op := _, type := _, pos := _, after := _, guard := _ }) (v := ?va2) rfl (by kernel_rfl) (by kernel_rfl) (by kernel_rfl) (fun _ _ _ h => h) (Or.inl ⟨by rfl, ?ya2⟩) (by assumption) ?ra2; (case ya2 => intro w hSw; have g0 := (hSw.cell hba).trans c0; have g1 := (hSw.cell hba).trans c1; have g2 := (hSw.cell hba).trans c2; have g3 := (hSw.cell hbb).trans d0; have g4 := (hSw.cell hbb).trans d1; have g5 := (hSw.cell hbb).trans d2; go_simp <;> with_reducible rfl); simp only [Act.put, List.setIfInBounds_toArray, List.set_cons_zero, List.set_cons_succ]
          refine wpAnyH_take (i := 3) (oi := { dst := _, op := _, type := _, pos := _, after := _, guard := _ }) (v := ?va3) rfl (by kernel_rfl) (by kernel_rfl) (by kernel_rfl) (fun _ _ _ h => h) (Or.inl ⟨by rfl, ?ya3⟩) (by assumption) ?ra3; (case ya3 => intro w hSw; have g0 := (hSw.cell hba).trans c0; have g1 := (hSw.cell hba).trans c1; have g2 := (hSw.cell hba).trans c2; have g3 := (hSw.cell hbb).trans d0; have g4 := (hSw.cell hbb).trans d1; have g5 := (hSw.cell hbb).trans d2; go_simp <;> with_reducible rfl); simp only [Act.put, List.setIfInBounds_toArray, List.set_cons_zero, List.set_cons_succ]
          refine wpAnyH_take (i := 4) (oi := { dst := _, op := _, type := _, pos := _, after := _, guard := _ }) (v := ?va4) rfl (by kernel_rfl) (by kernel_rfl) (by kernel_rfl) (fun _ _ _ h => h) (Or.inl ⟨by rfl, ?ya4⟩) (by assumption) ?ra4; (case ya4 => intro w hSw; have g0 := (hSw.cell hba).trans c0; have g1 := (hSw.cell hba).trans c1; have g2 := (hSw.cell hba).trans c2; have g3 := (hSw.cell hbb).trans d0; have g4 := (hSw.cell hbb).trans d1; have g5 := (hSw.cell hbb).trans d2; go_simp <;> with_reducible rfl); simp only [Act.put, List.setIfInBounds_toArray, List.set_cons_zero, List.set_cons_succ]
          refine wpAnyH_take (i := 5) (oi := { dst := _, op := _, type := _, pos := _, after := _, guard := _ }) (v := ?va5) rfl (by kernel_rfl) (by kernel_rfl) (by kernel_rfl) (fun _ _ _ h => h) (Or.inl ⟨by rfl, ?ya5⟩) (by assumption) ?ra5; (case ya5 => intro w hSw; have g0 := (hSw.cell hba).trans c0; have g1 := (hSw.cell hba).trans c1; have g2 := (hSw.cell hba).trans c2; have g3 := (hSw.cell hbb).trans d0; have g4 := (hSw.cell hbb).trans d1; have g5 := (hSw.cell hbb).trans d2; go_simp <;> with_reducible rfl); simp only [Act.put, List.setIfInBounds_toArray, List.set_cons_zero, List.set_cons_succ]
          refine wpAnyH_take (i := 6) (oi := { dst := _, op := _, type := _, pos := _, after := _, guard := _ }) (v := ?va6) rfl (by kernel_rfl) (by kernel_rfl) (by kernel_rfl) (fun _ _ _ h => h) (Or.inl ⟨by rfl, ?ya6⟩) (by assumption) ?ra6; (case ya6 => intro w hSw; have g0 := (hSw.cell hba).trans c0; have g1 := (hSw.cell hba).trans c1; have g2 := (hSw.cell hba).trans c2; have g3 := (hSw.cell hbb).trans d0; have g4 := (hSw.cell hbb).trans d1; have g5 := (hSw.cell hbb).trans d2; go_simp <;> with_reducible rfl); simp only [Act.put, List.setIfInBounds_toArray, List.set_cons_zero, List.set_cons_succ]
          refine wpAnyH_take (i := 7) (oi := { dst := _, op := _, type := _, pos := _, after := _, guard := _ }) (v := ?va7) rfl (by kernel_rfl) (by kernel_rfl) (by kernel_rfl) (fun _ _ _ h => h) (Or.inl ⟨by rfl, ?ya7⟩) (by assumption) ?ra7; (case ya7 => intro w hSw; have g0 := (hSw.cell hba).trans c0; have g1 := (hSw.cell hba).trans c1; have g2 := (hSw.cell hba).trans c2; have g3 := (hSw.cell hbb).trans d0; have g4 := (hSw.cell hbb).trans d1; have g5 := (hSw.cell hbb).trans d2; go_simp <;> with_reducible rfl); simp only [Act.put, List.setIfInBounds_toArray, List.set_cons_zero, List.set_cons_succ]
          refine wpAnyH_ready (rs := [8]) (by kernel_rfl) (by simp) ?_
          refine AllReadyH.cons (o := { dst := _, op := _, type := _, pos := _, after := _, guard := _ }) rfl (fun K hK => ?_) AllReadyH.nil
          go_simp
          refine (hW _ h0).mono ?_
          rintro e x1 ⟨rfl, hc1⟩
          have hd1 : Below wr.heap.size wr x1 := Below.call h0 hc1
          refine hK.out _ _ hd1 (fun _ => ?_)
          clear hK K
          refine wpAnyH_take (i := 9) (oi := { dst := _, op := _, type := _, pos := _, after := _, guard := _ }) (v := ?va9) rfl (by kernel_rfl) (by kernel_rfl) (by kernel_rfl) (fun _ _ _ h => h) (Or.inl ⟨by rfl, ?ya9⟩) (by assumption) ?ra9; (case ya9 => intro w hSw; have g0 := (hSw.cell hba).trans c0; have g1 := (hSw.cell hba).trans c1; have g2 := (hSw.cell hba).trans c2; have g3 := (hSw.cell hbb).trans d0; have g4 := (hSw.cell hbb).trans d1; have g5 := (hSw.cell hbb).trans d2; go_simp <;> with_reducible rfl); simp only [Act.put, List.setIfInBounds_toArray, List.set_cons_zero, List.set_cons_succ]
          refine wpAnyH_done (by kernel_rfl) ?_ _
          go_wp2_with fail
          exact ⟨⟨k + 1, by omega, by go_num, Below.call hbel hd1, fun j hj => by
            by_cases hjk : j = k
            · subst hjk; exact HX.out
            · exact HS.out j (by omega)⟩, by simp [intOf]; omega⟩
        | false =>
          rw [hq] at hW
          have HM := Lib.hid (HN.out hq)
          clear hxy hq HN
          go_wp2_with fail
          refine wp_region_held_drew (S := fun w' => Below wr.heap.size wr w') (by kernel_rfl) (Below.refl _ _).drew (fun h0 => ?_)
          refine wpAnyH_take (i := 0) (oi := { dst := _, op := _, type := _, pos := _, after := _, guard := _ }) (v := ?vb0) rfl (by kernel_rfl) (by kernel_rfl) (by kernel_rfl) (fun _ _ _ h => h) (Or.inl ⟨by rfl, ?yb0⟩) (by assumption) ?rb0; (case yb0 => intro w hSw; have g0 := (hSw.cell hba).trans c0; have g1 := (hSw.cell hba).trans c1; have g2 := (hSw.cell hba).trans c2; have g3 := (hSw.cell hbb).trans d0; have g4 := (hSw.cell hbb).trans d1; have g5 := (hSw.cell hbb).trans d2; go_simp <;> with_reducible rfl); simp only [Act.put, List.setIfInBounds_toArray, List.set_cons_zero, List.set_cons_succ]
          refine wpAnyH_take (i := 1) (oi := { dst := _, op := _, type := _, pos := _, after := _, guard := _ }) (v := ?vb1) rfl (by kernel_rfl) (by kernel_rfl) (by kernel_rfl) (fun _ _ _ h => h) (Or.inl ⟨by rfl, ?yb1⟩) (by assumption) ?rb1; (case yb1 => intro w hSw; have g0 := (hSw.cell hba).trans c0; have g1 := (hSw.cell hba).trans c1; have g2 := (hSw.cell hba).trans c2; have g3 := (hSw.cell hbb).trans d0; have g4 := (hSw.cell hbb).trans d1; have g5 := (hSw.cell hbb).trans d2; go_simp <;> with_reducible rfl); simp only [Act.put, List.setIfInBounds_toArray, List.set_cons_zero, List.set_cons_succ]
          refine wpAnyH_take (i := 2) (oi := { dst := _, op := _, type := _, pos := _, after := _, guard := _ }) (v := ?vb2) rfl (by kernel_rfl) (by kernel_rfl) (by kernel_rfl) (fun _ _ _ h => h) (Or.inl ⟨by rfl, ?yb2⟩) (by assumption) ?rb2; (case yb2 => intro w hSw; have g0 := (hSw.cell hba).trans c0; have g1 := (hSw.cell hba).trans c1; have g2 := (hSw.cell hba).trans c2; have g3 := (hSw.cell hbb).trans d0; have g4 := (hSw.cell hbb).trans d1; have g5 := (hSw.cell hbb).trans d2; go_simp <;> with_reducible rfl); simp only [Act.put, List.setIfInBounds_toArray, List.set_cons_zero, List.set_cons_succ]
          refine wpAnyH_take (i := 3) (oi := { dst := _, op := _, type := _, pos := _, after := _, guard := _ }) (v := ?vb3) rfl (by kernel_rfl) (by kernel_rfl) (by kernel_rfl) (fun _ _ _ h => h) (Or.inl ⟨by rfl, ?yb3⟩) (by assumption) ?rb3; (case yb3 => intro w hSw; have g0 := (hSw.cell hba).trans c0; have g1 := (hSw.cell hba).trans c1; have g2 := (hSw.cell hba).trans c2; have g3 := (hSw.cell hbb).trans d0; have g4 := (hSw.cell hbb).trans d1; have g5 := (hSw.cell hbb).trans d2; go_simp <;> with_reducible rfl); simp only [Act.put, List.setIfInBounds_toArray, List.set_cons_zero, List.set_cons_succ]
          refine wpAnyH_take (i := 4) (oi := { dst := _, op := _, type := _, pos := _, after := _, guard := _ }) (v := ?vb4) rfl (by kernel_rfl) (by kernel_rfl) (by kernel_rfl) (fun _ _ _ h => h) (Or.inl ⟨by rfl, ?yb4⟩) (by assumption) ?rb4; (case yb4 => intro w hSw; have g0 := (hSw.cell hba).trans c0; have g1 := (hSw.cell hba).trans c1; have g2 := (hSw.cell hba).trans c2; have g3 := (hSw.cell hbb).trans d0; have g4 := (hSw.cell hbb).trans d1; have g5 := (hSw.cell hbb).trans d2; go_simp <;> with_reducible rfl); simp only [Act.put, List.setIfInBounds_toArray, List.set_cons_zero, List.set_cons_succ]
          refine wpAnyH_take (i := 5) (oi := { dst := _, op := _, type := _, pos := _, after := _, guard := _ }) (v := ?vb5) rfl (by kernel_rfl) (by kernel_rfl) (by kernel_rfl) (fun _ _ _ h => h) (Or.inl ⟨by rfl, ?yb5⟩) (by assumption) ?rb5; (case yb5 => intro w hSw; have g0 := (hSw.cell hba).trans c0; have g1 := (hSw.cell hba).trans c1; have g2 := (hSw.cell hba).trans c2; have g3 := (hSw.cell hbb).trans d0; have g4 := (hSw.cell hbb).trans d1; have g5 := (hSw.cell hbb).trans d2; go_simp <;> with_reducible rfl); simp only [Act.put, List.setIfInBounds_toArray, List.set_cons_zero, List.set_cons_succ]
          refine wpAnyH_take (i := 6) (oi := { dst := _, op := _, type := _, pos := _, after := _, guard := _ }) (v := ?vb6) rfl (by kernel_rfl) (by kernel_rfl) (by kernel_rfl) (fun _ _ _ h => h) (Or.inl ⟨by rfl, ?yb6⟩) (by assumption) ?rb6; (case yb6 => intro w hSw; have g0 := (hSw.cell hba).trans c0; have g1 := (hSw.cell hba).trans c1; have g2 := (hSw.cell hba).trans c2; have g3 := (hSw.cell hbb).trans d0; have g4 := (hSw.cell hbb).trans d1; have g5 := (hSw.cell hbb).trans d2; go_simp <;> with_reducible rfl); simp only [Act.put, List.setIfInBounds_toArray, List.set_cons_zero, List.set_cons_succ]
          refine wpAnyH_take (i := 7) (oi := { dst := _, op := _, type := _, pos := _, after := _, guard := _ }) (v := ?vb7) rfl (by kernel_rfl) (by kernel_rfl) (by kernel_rfl) (fun _ _ _ h => h) (Or.inl ⟨by rfl, ?yb7⟩) (by assumption) ?rb7; (case yb7 => intro w hSw; have g0 := (hSw.cell hba).trans c0; have g1 := (hSw.cell hba).trans c1; have g2 := (hSw.cell hba).trans c2; have g3 := (hSw.cell hbb).trans d0; have g4 := (hSw.cell hbb).trans d1; have g5 := (hSw.cell hbb).trans d2; go_simp <;> with_reducible rfl); simp only [Act.put, List.setIfInBounds_toArray, List.set_cons_zero, List.set_cons_succ]
          refine wpAnyH_ready (rs := [8]) (by kernel_rfl) (by simp) ?_
          refine AllReadyH.cons (o := { dst := _, op := _, type := _, pos := _, after := _, guard := _ }) rfl (fun K hK => ?_) AllReadyH.nil
          go_simp
          refine (hW _ h0).mono ?_
          rintro e x1 ⟨rfl, hc1⟩
          have hd1 : Below wr.heap.size wr x1 := Below.call h0 hc1
          refine hK.out _ _ hd1 (fun _ => ?_)
          clear hK K
          refine wpAnyH_take (i := 9) (oi := { dst := _, op := _, type := _, pos := _, after := _, guard := _ }) (v := ?vb9) rfl (by kernel_rfl) (by kernel_rfl) (by kernel_rfl) (fun _ _ _ h => h) (Or.inl ⟨by rfl, ?yb9⟩) (by assumption) ?rb9; (case yb9 => intro w hSw; have g0 := (hSw.cell hba).trans c0; have g1 := (hSw.cell hba).trans c1; have g2 := (hSw.cell hba).trans c2; have g3 := (hSw.cell hbb).trans d0; have g4 := (hSw.cell hbb).trans d1; have g5 := (hSw.cell hbb).trans d2; go_simp <;> with_reducible rfl); simp only [Act.put, List.setIfInBounds_toArray, List.set_cons_zero, List.set_cons_succ]
          refine wpAnyH_done (by kernel_rfl) ?_ _
          go_wp2_with fail
          go_ret
          exact ⟨ret_bool HM.out.symm, Below.call hbel hd1⟩
      · have hkn : k = xs.length := by omega
        subst hkn
        have hab : decide (xs.map EV.ent = ys.map EV.ent) = true := decide_eq_true (ents_same xs ys HL.out hsame)
        have HAB := Lib.hid hab
        clear hab hsame
        go_wp2_with fail
        go_ret
        exact ⟨ret_bool HAB.out.symm, hbel⟩
  · have h1 : ((xs.length : Int) == (ys.length : Int)) = false := by simp; omega
    have hab : decide (xs.map EV.ent = ys.map EV.ent) = false := by
      rw [decide_eq_false_iff_not]
      intro he
      have := congrArg List.length he
      simp at this
      exact hl this
    rw [hab]
    clear hab hl
    go_enter Try.func70, Try.ntmps70
    go_wp2_with fail
    go_ret
    exact ⟨rfl, Below.refl _ _⟩
end Go.Proofs.Ytlcnjinabfbglaa
