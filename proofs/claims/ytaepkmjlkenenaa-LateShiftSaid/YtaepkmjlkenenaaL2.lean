import Derived.Test.YtaepkmjlkenenaaL1
namespace Go.Proofs.Ytaepkmjlkenenaa
open Go.RowKit

set_option maxRecDepth 100000 in
theorem rises_any (v : Value) (l : List Int) (f t : Int) (w : World) (hI : Ints w v l) (hl : l.length ≤ 1000000000) :
    Calls Try.prog 28 #[v, .int .i64 f, .int .i64 t] w fun e w' => e = .returned (.bool (Lt.rises l f t)) ∧ w = w' := by
  obtain ⟨ao, cap, rfl, h1, h2, h3⟩ := hI.form
  go_enter Try.func28, Try.ntmps28
  go_wp2_with fail
  go_loop [1, 11] (fun c i => ∃ (k : Nat) (g : Int), k ≤ l.length ∧ i = .int .i64 k ∧ c = .int .i64 g ∧ Lt.rises l f t = Lt.rises (l.drop k) g t) (fun _ i => l.length - (intOf i).toNat)
  case atStart => exact ⟨0, f, Nat.zero_le _, rfl, rfl, rfl⟩
  case round =>
    obtain ⟨k, g, hk, rfl, rfl, hr⟩ := hrel
    by_cases hlt : k < l.length
    · obtain ⟨b, off, rfl, hbl, hc⟩ := Ints.at hI (by omega)
      have hck := hc k hlt
      have hdd : l.drop k = l.getD k 0 :: l.drop (k + 1) := by rw [List.drop_eq_getElem_cons hlt]; simp [hlt]
      obtain ⟨x, hx⟩ : ∃ x, x = l.getD k 0 := ⟨_, rfl⟩
      rw [← hx] at hck hdd
      rw [hdd, Lt.rises] at hr
      clear hc hx hdd
      by_cases hA : x ≤ g
      · rw [if_pos (.inl hA)] at hr
        have HR := Lib.hid hr
        clear hr
        go_wp2_with fail
        go_ret
        exact ⟨ret_bool HR.out.symm, rfl⟩
      · by_cases hB : t < x
        · rw [if_pos (.inr hB)] at hr
          have HR := Lib.hid hr
          clear hr
          go_wp2_with fail
          go_ret
          exact ⟨ret_bool HR.out.symm, rfl⟩
        · rw [if_neg (by omega)] at hr
          have HR := Lib.hid hr
          clear hr
          go_wp2_with fail
          exact ⟨⟨k + 1, x, by omega, by go_num, rfl, HR.out⟩, by simp [intOf]; omega⟩
    · have hkl : k = l.length := by omega
      rw [hkl, List.drop_length, Lt.rises] at hr
      have HR := Lib.hid hr
      clear hr hkl
      go_wp2_with fail
      go_ret
      exact ⟨ret_bool HR.out.symm, rfl⟩

/-- a lot as it comes -/
def lotV (l : Lt.Lot) (vd vc : Value) : Value := .agg #[.int .i64 l.pol, .int .i64 l.grace, .int .i64 l.now, vd, vc, .int .i64 l.room]
set_option maxRecDepth 100000 in
set_option maxHeartbeats 2000000 in
theorem may_no (l : Lt.Lot) (vd vc : Value) (w : World) (hD : Ints w vd l.due) (hC : Ints w vc l.come) (hh : Lt.head l = true) :
    Calls Try.prog 10 #[lotV l vd vc] w fun e w' => e = .returned (.bool (Lt.may l)) ∧ Below w.heap.size w w' := by
  have hm : Lt.may l = false := by unfold Lt.may; rw [if_pos hh]
  rw [hm]
  unfold lotV
  unfold Lt.head at hh
  obtain ⟨ao, ca, rfl, -, -, -⟩ := hD.form
  obtain ⟨bo, cb, rfl, -, -, -⟩ := hC.form
  simp only [Bool.or_eq_true, decide_eq_true_eq] at hh
  clear hm
  obtain ⟨pol, grace, now, due, come, room⟩ := l
  simp only [] at hh ⊢
  have hq : pol < 1 ∨ (¬ pol < 1 ∧ 3 < pol) ∨ (¬ pol < 1 ∧ ¬ 3 < pol ∧ grace < 0) ∨ (¬ pol < 1 ∧ ¬ 3 < pol ∧ ¬ grace < 0 ∧ now < 0)
      ∨ (¬ pol < 1 ∧ ¬ 3 < pol ∧ ¬ grace < 0 ∧ ¬ now < 0 ∧ 13569465600 ≤ now)
      ∨ (¬ pol < 1 ∧ ¬ 3 < pol ∧ ¬ grace < 0 ∧ ¬ now < 0 ∧ ¬ 13569465600 ≤ now ∧ (64 : Int) < (due.length : Int))
      ∨ (¬ pol < 1 ∧ ¬ 3 < pol ∧ ¬ grace < 0 ∧ ¬ now < 0 ∧ ¬ 13569465600 ≤ now ∧ ¬ (64 : Int) < (due.length : Int) ∧ (64 : Int) < (come.length : Int))
      ∨ (¬ pol < 1 ∧ ¬ 3 < pol ∧ ¬ grace < 0 ∧ ¬ now < 0 ∧ ¬ 13569465600 ≤ now ∧ ¬ (64 : Int) < (due.length : Int) ∧ ¬ (64 : Int) < (come.length : Int) ∧ 64 < room)
      ∨ (¬ pol < 1 ∧ ¬ 3 < pol ∧ ¬ grace < 0 ∧ ¬ now < 0 ∧ ¬ 13569465600 ≤ now ∧ ¬ (64 : Int) < (due.length : Int) ∧ ¬ (64 : Int) < (come.length : Int) ∧ ¬ 64 < room ∧ room < (due.length : Int)) := by omega
  clear hh
  rcases hq with h1 | ⟨h1, h2⟩ | ⟨h1, h2, h3⟩ | ⟨h1, h2, h3, h4⟩ | ⟨h1, h2, h3, h4, h5⟩ | ⟨h1, h2, h3, h4, h5, h6⟩ | ⟨h1, h2, h3, h4, h5, h6, h7⟩ | ⟨h1, h2, h3, h4, h5, h6, h7, h8⟩ | ⟨h1, h2, h3, h4, h5, h6, h7, h8, h9⟩
  all_goals
    go_enter Try.func10, Try.ntmps10
    go_wp2_with fail
    go_ret
    exact ⟨rfl, (Below.refl _ _).alloc (Nat.le_refl _) _⟩
set_option maxRecDepth 100000 in
theorem may_yes (l : Lt.Lot) (vd vc : Value) (w : World) (hD : Ints w vd l.due) (hC : Ints w vc l.come) (hh : Lt.head l = false) :
    Calls Try.prog 10 #[lotV l vd vc] w fun e w' => e = .returned (.bool (Lt.may l)) ∧ Below w.heap.size w w' := by
  have hm : Lt.may l = Lt.rises (l.due ++ l.come) (-1) l.now := by unfold Lt.may; rw [if_neg (by rw [hh]; decide)]
  rw [hm]
  unfold lotV
  unfold Lt.head at hh
  obtain ⟨ao, ca, rfl, -, -, -⟩ := hD.form
  obtain ⟨bo, cb, rfl, -, -, -⟩ := hC.form
  simp only [Bool.or_eq_false_iff, decide_eq_false_iff_not] at hh
  clear hm
  obtain ⟨pol, grace, now, due, come, room⟩ := l
  simp only [] at hh hD hC ⊢
  obtain ⟨⟨⟨⟨⟨⟨⟨⟨h1, h2⟩, h3⟩, h4⟩, h5⟩, h6⟩, h7⟩, h8⟩, h9⟩ := hh
  have h6' : ¬ (64 : Int) < (due.length : Int) := by omega
  have h7' : ¬ (64 : Int) < (come.length : Int) := by omega
  clear h6 h7
  go_enter Try.func10, Try.ntmps10
  go_wp2_with fail
  obtain ⟨W, hW⟩ : ∃ W, W = w.alloc (.cells #[.int .i64 pol, .int .i64 grace, .int .i64 now, .slice ao due.length ca, .slice bo come.length cb, .int .i64 room] 24) := ⟨_, rfl⟩
  rw [← hW]
  have hbW : Below w.heap.size w W := by rw [hW]; exact (Below.refl _ _).alloc (Nat.le_refl _) _
  have c3 : ∀ w', Below W.heap.size W w' → w'.cell? ⟨w.heap.size, 3, none⟩ = some (.slice ao due.length ca) := fun w' h => below_at h (by rw [hW, World.cell?_alloc_mark]; rfl)
  have c4 : ∀ w', Below W.heap.size W w' → w'.cell? ⟨w.heap.size, 4, none⟩ = some (.slice bo come.length cb) := fun w' h => below_at h (by rw [hW, World.cell?_alloc_mark]; rfl)
  have c2 : ∀ w', Below W.heap.size W w' → w'.cell? ⟨w.heap.size, 2, none⟩ = some (.int .i64 now) := fun w' h => below_at h (by rw [hW, World.cell?_alloc_mark]; rfl)
  have hD' : Ints W (.slice ao due.length ca) due := hD.keep hbW
  have hC' : Ints W (.slice bo come.length cb) come := hC.keep hbW
  clear hW
  refine wp_region_held_drew (S := fun w' => Below W.heap.size W w') (by kernel_rfl) (Below.refl _ _).drew (fun h0 => ?_)
  refine wpAnyH_take (i := 0) (oi := { dst := _, op := _, type := _, pos := _, after := _, guard := _ }) (v := ?v0) rfl (by kernel_rfl) (by kernel_rfl) (by kernel_rfl) (fun _ _ _ h => h) (Or.inl ⟨by rfl, ?y0⟩) (by assumption) ?r0; (case y0 => intro w hSw; have d2 := c2 w hSw; have d3 := c3 w hSw; have d4 := c4 w hSw; go_simp <;> with_reducible rfl); simp only [Act.put, List.setIfInBounds_toArray, List.set_cons_zero, List.set_cons_succ]
  refine wpAnyH_take (i := 1) (oi := { dst := _, op := _, type := _, pos := _, after := _, guard := _ }) (v := ?v1) rfl (by kernel_rfl) (by kernel_rfl) (by kernel_rfl) (fun _ _ _ h => h) (Or.inl ⟨by rfl, ?y1⟩) (by assumption) ?r1; (case y1 => intro w hSw; have d2 := c2 w hSw; have d3 := c3 w hSw; have d4 := c4 w hSw; go_simp <;> with_reducible rfl); simp only [Act.put, List.setIfInBounds_toArray, List.set_cons_zero, List.set_cons_succ]
  refine wpAnyH_take (i := 2) (oi := { dst := _, op := _, type := _, pos := _, after := _, guard := _ }) (v := ?v2) rfl (by kernel_rfl) (by kernel_rfl) (by kernel_rfl) (fun _ _ _ h => h) (Or.inl ⟨by rfl, ?y2⟩) (by assumption) ?r2; (case y2 => intro w hSw; have d2 := c2 w hSw; have d3 := c3 w hSw; have d4 := c4 w hSw; go_simp <;> with_reducible rfl); simp only [Act.put, List.setIfInBounds_toArray, List.set_cons_zero, List.set_cons_succ]
  refine wpAnyH_take (i := 3) (oi := { dst := _, op := _, type := _, pos := _, after := _, guard := _ }) (v := ?v3) rfl (by kernel_rfl) (by kernel_rfl) (by kernel_rfl) (fun _ _ _ h => h) (Or.inl ⟨by rfl, ?y3⟩) (by assumption) ?r3; (case y3 => intro w hSw; have d2 := c2 w hSw; have d3 := c3 w hSw; have d4 := c4 w hSw; go_simp <;> with_reducible rfl); simp only [Act.put, List.setIfInBounds_toArray, List.set_cons_zero, List.set_cons_succ]
  refine wpAnyH_take (i := 6) (oi := { dst := _, op := _, type := _, pos := _, after := _, guard := _ }) (v := ?v6) rfl (by kernel_rfl) (by kernel_rfl) (by kernel_rfl) (fun _ _ _ h => h) (Or.inl ⟨by rfl, ?y6⟩) (by assumption) ?r6; (case y6 => intro w hSw; have d2 := c2 w hSw; have d3 := c3 w hSw; have d4 := c4 w hSw; go_simp <;> with_reducible rfl); simp only [Act.put, List.setIfInBounds_toArray, List.set_cons_zero, List.set_cons_succ]
  refine wpAnyH_take (i := 7) (oi := { dst := _, op := _, type := _, pos := _, after := _, guard := _ }) (v := ?v7) rfl (by kernel_rfl) (by kernel_rfl) (by kernel_rfl) (fun _ _ _ h => h) (Or.inl ⟨by rfl, ?y7⟩) (by assumption) ?r7; (case y7 => intro w hSw; have d2 := c2 w hSw; have d3 := c3 w hSw; have d4 := c4 w hSw; go_simp <;> with_reducible rfl); simp only [Act.put, List.setIfInBounds_toArray, List.set_cons_zero, List.set_cons_succ]
  refine wpAnyH_ready (rs := [4]) (by kernel_rfl) (by simp) ?_
  refine AllReadyH.cons (o := { dst := _, op := _, type := _, pos := _, after := _, guard := _ }) rfl (fun K hK => ?_) AllReadyH.nil
  go_simp
  refine hK.out _ _ (Below.al (Below.refl _ W) _).drew (fun h1 => ?_)
  clear hK K
  refine wpAnyH_ready (rs := [5]) (by kernel_rfl) (by simp) ?_
  refine AllReadyH.cons (o := { dst := _, op := _, type := _, pos := _, after := _, guard := _ }) rfl (fun K hK => ?_) AllReadyH.nil
  go_simp
  refine (concat_any _ _ [due, come] _ (two_parts hD' hC').1.drew (two_parts hD' hC').2 (by simp; omega)).mono ?_
  rintro e x1 ⟨v1, rfl, ho1, hb1⟩
  have h2 := Below.call h1 hb1
  refine hK.out _ _ h2 (fun _ => ?_)
  clear hK K
  refine wpAnyH_ready (rs := [8]) (by kernel_rfl) (by simp) ?_
  refine AllReadyH.cons (o := { dst := _, op := _, type := _, pos := _, after := _, guard := _ }) rfl (fun K hK => ?_) AllReadyH.nil
  go_simp
  refine (rises_any _ (due ++ come) (-1) now _ (by simpa using ho1.ints) (by simp; omega)).mono ?_
  rintro e x2 ⟨rfl, rfl⟩
  refine hK.out _ _ h2 (fun _ => ?_)
  clear hK K
  refine wpAnyH_take (i := 9) (oi := { dst := _, op := _, type := _, pos := _, after := _, guard := _ }) (v := ?v9) rfl (by kernel_rfl) (by kernel_rfl) (by kernel_rfl) (fun _ _ _ h => h) (Or.inl ⟨by rfl, ?y9⟩) (by assumption) ?r9; (case y9 => intro w hSw; have d2 := c2 w hSw; have d3 := c3 w hSw; have d4 := c4 w hSw; go_simp <;> with_reducible rfl); simp only [Act.put, List.setIfInBounds_toArray, List.set_cons_zero, List.set_cons_succ]
  refine wpAnyH_done (by kernel_rfl) ?_ _
  go_wp2_with fail
  go_ret
  exact ⟨rfl, Below.call hbW h2⟩
theorem may_any (l : Lt.Lot) (vd vc : Value) (w : World) (hD : Ints w vd l.due) (hC : Ints w vc l.come) :
    Calls Try.prog 10 #[lotV l vd vc] w fun e w' => e = .returned (.bool (Lt.may l)) ∧ Below w.heap.size w w' := by
  cases h : Lt.head l
  · exact may_yes l vd vc w hD hC h
  · exact may_no l vd vc w hD hC h
end Go.Proofs.Ytaepkmjlkenenaa
