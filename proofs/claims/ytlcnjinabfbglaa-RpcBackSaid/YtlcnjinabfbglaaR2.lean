/- An entry's record. -/
import Derived.Test.YtlcnjinabfbglaaR1

namespace Go.Proofs.Ytlcnjinabfbglaa
open Go.RowKit
abbrev entV (e : EV) : Value := .agg #[u64 e.idx, u64 e.term, e.v]
theorem mayE_bad (e : Rp.Ent) (h : Rp.mayE e = false) : e.idx = 0 ∨ (e.idx ≠ 0 ∧ 2000 < e.body.length) := by
  unfold Rp.mayE at h
  by_cases h0 : e.idx = 0
  · exact .inl h0
  · right
    refine ⟨h0, ?_⟩
    have : (e.idx != 0) = true := by simp [h0]
    rw [this, Bool.true_and, decide_eq_false_iff_not] at h
    omega
theorem mayE_ok (e : Rp.Ent) (h : Rp.mayE e = true) : e.idx ≠ 0 ∧ e.body.length ≤ 2000 := by
  simpa [Rp.mayE] using h
set_option maxRecDepth 100000 in
set_option maxHeartbeats 2000000 in
theorem record_bad (e : EV) (w : World) (h : EvOk w e) (hm : Rp.mayE e.ent = false) : Calls Try.prog 57 #[entV e] w fun r w' => ∃ c : Int, (c = 2 ∨ c = 3) ∧ r = .returned (.tuple #[.slice none 0 0, .int .i64 c]) ∧ Below w.heap.size w w' := by
  obtain ⟨i, t, v, body⟩ := e
  have hB : Bts w v body := h.1
  obtain ⟨ao, cap, rfl, b1, b2, b3⟩ := hB.form
  unfold maxLen at b2
  have hi := h.2.1
  have ht := h.2.2
  unfold Rp.N64 at hi ht
  simp only [EV.ent] at hi ht
  rcases mayE_bad _ hm with h0 | ⟨h0, h2⟩
  · simp only [EV.ent] at h0
    subst h0
    go_enter Try.func57, Try.ntmps57
    go_wp2_with fail
    go_ret2
    exact ⟨2, .inl rfl, rfl, Below.al (Below.refl _ _) _⟩
  · simp only [EV.ent] at h0 h2
    have h0' : ((i : Int) == 0) = false := by rw [beq_eq_false_iff_ne]; omega
    have h2' : (2000 : Int) < (body.length : Int) := by omega
    go_enter Try.func57, Try.ntmps57
    go_wp2_with fail
    go_ret2
    exact ⟨3, .inr rfl, rfl, Below.al (Below.refl _ _) _⟩
set_option maxRecDepth 100000 in
set_option maxHeartbeats 2000000 in
theorem record_ok (e : EV) (w : World) (h : EvOk w e) (hm : Rp.mayE e.ent = true) : Calls Try.prog 57 #[entV e] w fun r w' => ∃ v, r = .returned (.tuple #[v, .int .i64 0]) ∧ OwnB w.heap.size w' v (Rp.record e.ent) ∧ Below w.heap.size w w' := by
  obtain ⟨i, t, v, body⟩ := e
  have hB : Bts w v body := h.1
  obtain ⟨ao, cap, rfl, b1, b2, b3⟩ := hB.form
  unfold maxLen at b2
  have hi := h.2.1
  have ht := h.2.2
  obtain ⟨h0, h2⟩ := mayE_ok _ hm
  unfold Rp.N64 at hi ht
  simp only [EV.ent] at hi ht h0 h2
  have h0' : ((i : Int) == 0) = false := by rw [beq_eq_false_iff_ne]; omega
  have h2' : ¬ (2000 : Int) < (body.length : Int) := by omega
  have hal := Below.al (Below.refl w.heap.size w) (.cells #[u64 i, u64 t, .slice ao body.length cap] 79)
  have kv := conv_str (hB.keep hal)
  have hT := putText_le ⟨body.toArray⟩ (w.alloc (.cells #[u64 i, u64 t, .slice ao body.length cap] 79)) (by rw [size_mk]; omega)
  rw [sb_mk] at hT
  have hl1 := Pk.put_len i
  have hl2 := Pk.put_len t
  have hl3 := Pk.put_len body.length
  have hlt : (Pk.putText body).length ≤ 2010 := by simp [Pk.putText]; omega
  show Calls Try.prog 57 #[.agg #[u64 i, u64 t, .slice ao body.length cap]] w fun r w' => ∃ v, r = .returned (.tuple #[v, .int .i64 0]) ∧ OwnB w.heap.size w' v (Pk.put i ++ (Pk.put t ++ Pk.putText body)) ∧ Below w.heap.size w w'
  generalize Pk.putText body = tx at hT hlt ⊢
  go_enter Try.func57, Try.ntmps57
  go_wp2_with (go_at_call 19; refine hT.mono ?_; rintro e w1 ⟨v1, rfl, hb1, ho1⟩; obtain ⟨xo, xc, rfl, -, -⟩ := own_form ho1)
  have hZ : w.heap.size < (w.alloc (.cells #[u64 i, u64 t, .slice ao body.length cap] 79)).heap.size := by simp
  have hrow : w1.heap[w.heap.size]? = some (.cells #[u64 i, u64 t, .slice ao body.length cap] 79 (0, 0)) := by rw [hb1.block _ hZ]; unfold World.alloc; simp
  have hzl := Nat.lt_of_lt_of_le hZ hb1.size
  have hb01 := Below.call hal hb1
  have c0 : ∀ w', Below w1.heap.size w1 w' → w'.cell? ⟨w.heap.size, 0, none⟩ = some (u64 i) := fun w' hw => by rw [cell_of_row w' _ 0 _ 79 (0, 0) ((hw.block _ hzl).trans hrow)]; rfl
  have c1 : ∀ w', Below w1.heap.size w1 w' → w'.cell? ⟨w.heap.size, 1, none⟩ = some (u64 t) := fun w' hw => by rw [cell_of_row w' _ 1 _ 79 (0, 0) ((hw.block _ hzl).trans hrow)]; rfl
  have tx1 := ho1.bts
  clear hT kv hal hrow ho1 hb1
  refine wp_region_held_drew (S := fun w' => Below w1.heap.size w1 w') (by kernel_rfl) (Below.refl _ _).drew (fun h0 => ?_)
  refine wpAnyH_take (i := 0) (oi := { dst := _, op := _, type := _, pos := _, after := _, guard := _ }) (v := ?va0) rfl (by kernel_rfl) (by kernel_rfl) (by kernel_rfl) (fun _ _ _ h => h) (Or.inl ⟨by rfl, ?ya0⟩) (by assumption) ?ra0; (case ya0 => intro w hSw; have d0 := c0 w hSw; have d1 := c1 w hSw; go_simp <;> with_reducible rfl); simp only [Act.put, List.setIfInBounds_toArray, List.set_cons_zero, List.set_cons_succ]
  refine wpAnyH_take (i := 1) (oi := { dst := _, op := _, type := _, pos := _, after := _, guard := _ }) (v := ?va1) rfl (by kernel_rfl) (by kernel_rfl) (by kernel_rfl) (fun _ _ _ h => h) (Or.inl ⟨by rfl, ?ya1⟩) (by assumption) ?ra1; (case ya1 => intro w hSw; have d0 := c0 w hSw; have d1 := c1 w hSw; go_simp <;> with_reducible rfl); simp only [Act.put, List.setIfInBounds_toArray, List.set_cons_zero, List.set_cons_succ]
  refine wpAnyH_take (i := 3) (oi := { dst := _, op := _, type := _, pos := _, after := _, guard := _ }) (v := ?va3) rfl (by kernel_rfl) (by kernel_rfl) (by kernel_rfl) (fun _ _ _ h => h) (Or.inl ⟨by rfl, ?ya3⟩) (by assumption) ?ra3; (case ya3 => intro w hSw; have d0 := c0 w hSw; have d1 := c1 w hSw; go_simp <;> with_reducible rfl); simp only [Act.put, List.setIfInBounds_toArray, List.set_cons_zero, List.set_cons_succ]
  refine wpAnyH_take (i := 4) (oi := { dst := _, op := _, type := _, pos := _, after := _, guard := _ }) (v := ?va4) rfl (by kernel_rfl) (by kernel_rfl) (by kernel_rfl) (fun _ _ _ h => h) (Or.inl ⟨by rfl, ?ya4⟩) (by assumption) ?ra4; (case ya4 => intro w hSw; have d0 := c0 w hSw; have d1 := c1 w hSw; go_simp <;> with_reducible rfl); simp only [Act.put, List.setIfInBounds_toArray, List.set_cons_zero, List.set_cons_succ]
  refine wpAnyH_take (i := 6) (oi := { dst := _, op := _, type := _, pos := _, after := _, guard := _ }) (v := ?va6) rfl (by kernel_rfl) (by kernel_rfl) (by kernel_rfl) (fun _ _ _ h => h) (Or.inl ⟨by rfl, ?ya6⟩) (by assumption) ?ra6; (case ya6 => intro w hSw; have d0 := c0 w hSw; have d1 := c1 w hSw; go_simp <;> with_reducible rfl); simp only [Act.put, List.setIfInBounds_toArray, List.set_cons_zero, List.set_cons_succ]
  refine wpAnyH_ready (rs := [2]) (by kernel_rfl) (by simp) ?_
  refine AllReadyH.cons (o := { dst := _, op := _, type := _, pos := _, after := _, guard := _ }) rfl (fun K hK => ?_) AllReadyH.nil
  go_simp
  refine (put_any i _ hi).mono ?_
  rintro e x1 ⟨y1, rfl, hy1, hc1⟩
  have hd1 : Below w1.heap.size w1 x1 := Below.call h0 hc1
  obtain ⟨yo1, yc1, rfl, -, -⟩ := own_form hy1
  refine hK.out _ _ hd1 (fun _ => ?_)
  clear hK K
  refine wpAnyH_ready (rs := [5]) (by kernel_rfl) (by simp) ?_
  refine AllReadyH.cons (o := { dst := _, op := _, type := _, pos := _, after := _, guard := _ }) rfl (fun K hK => ?_) AllReadyH.nil
  go_simp
  refine (put_any t _ ht).mono ?_
  rintro e x2 ⟨y2, rfl, hy2, hc2⟩
  have hd2 : Below w1.heap.size w1 x2 := Below.call hd1 hc2
  obtain ⟨yo2, yc2, rfl, -, -⟩ := own_form hy2
  refine hK.out _ _ hd2 (fun _ => ?_)
  clear hK K
  refine wpAnyH_ready (rs := [7]) (by kernel_rfl) (by simp) ?_
  refine AllReadyH.cons (o := { dst := _, op := _, type := _, pos := _, after := _, guard := _ }) rfl (fun K hK => ?_) AllReadyH.nil
  go_simp
  have hd3 := Below.al hd2 (.cells #[.slice yo1 (Pk.put i).length yc1, .slice yo2 (Pk.put t).length yc2, .slice xo tx.length xc] 22)
  refine hK.out _ _ hd3 (fun _ => ?_)
  clear hK K
  refine wpAnyH_ready (rs := [8]) (by kernel_rfl) (by simp) ?_
  refine AllReadyH.cons (o := { dst := _, op := _, type := _, pos := _, after := _, guard := _ }) rfl (fun K hK => ?_) AllReadyH.nil
  go_simp
  have hP := three_parts (n := x2.heap.size) (hy1.bts.keep hc2) hy2.bts (tx1.keep hd2) rfl
  refine (join_any _ _ [Pk.put i, Pk.put t, tx] _ hP.1 hP.2 (by simp; omega)).mono ?_
  rintro e x5 ⟨v5, rfl, ho5, hc5⟩
  have hd5 := Below.call hd3 hc5
  refine hK.out _ _ hd5 (fun _ => ?_)
  clear hK K
  refine wpAnyH_take (i := 9) (oi := { dst := _, op := _, type := _, pos := _, after := _, guard := _ }) (v := ?va9) rfl (by kernel_rfl) (by kernel_rfl) (by kernel_rfl) (fun _ _ _ h => h) (Or.inl ⟨by rfl, ?ya9⟩) (by assumption) ?ra9; (case ya9 => intro w hSw; have d0 := c0 w hSw; have d1 := c1 w hSw; go_simp <;> with_reducible rfl); simp only [Act.put, List.setIfInBounds_toArray, List.set_cons_zero, List.set_cons_succ]
  refine wpAnyH_take (i := 10) (oi := { dst := _, op := _, type := _, pos := _, after := _, guard := _ }) (v := ?va10) rfl (by kernel_rfl) (by kernel_rfl) (by kernel_rfl) (fun _ _ _ h => h) (Or.inl ⟨by rfl, ?ya10⟩) (by assumption) ?ra10; (case ya10 => intro w hSw; have d0 := c0 w hSw; have d1 := c1 w hSw; go_simp <;> with_reducible rfl); simp only [Act.put, List.setIfInBounds_toArray, List.set_cons_zero, List.set_cons_succ]
  refine wpAnyH_done (by kernel_rfl) ?_ _
  go_wp2_with fail
  go_ret2
  have e1 : [Pk.put i, Pk.put t, tx].flatten = Pk.put i ++ (Pk.put t ++ tx) := by simp
  rw [e1] at ho5
  exact ⟨_, rfl, ho5.mono (by have := hb01.size; have := hd3.size; omega), Below.call hb01 hd5⟩
end Go.Proofs.Ytlcnjinabfbglaa
