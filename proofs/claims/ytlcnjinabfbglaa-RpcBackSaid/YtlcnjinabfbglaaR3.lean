/- An entry's record: the reference's. -/
import Derived.Test.YtlcnjinabfbglaaR2
import Derived.Test.YtlcnjinabfbglaaQ14
namespace Go.Proofs.Ytlcnjinabfbglaa
open Go.RowKit
/-- APPEND of bytes to a row of bytes of the call's own: one operation, for itself -/
theorem wp_appB (w : World) {o : Oper} {a : Act} {K : Act → World → Prop} {Q : Exit → Act → World → Prop} (s x : Operand)
    (ho : o.op = .call { callee := .builtin .append, args := #[s, x], argTypes := #[22, 22] })
    (B : Nat) {v vx : Value} {l lx : List UInt8} (h : OwnB B w v l) (hX : Bts w vx lx) (hs : a.eval s = v) (hx : a.eval x = vx) (hsmall : l.length + lx.length ≤ 1000000) (hbase : B ≤ w.heap.size)
    (hK : ∀ ao' cap' w', OwnB B w' (.slice ao' (l.length + lx.length) cap') (l ++ lx) → Below B w w' → K (a.put o.dst (.slice ao' (l.length + lx.length) cap')) w') : o.wp Try.prog a w K Q := by
  obtain ⟨ao, cap, rfl, h1, h2, h3⟩ := hX.form
  refine wp_app w s x 22 ho B 5 (.int .u8 0) 1 Try.underlying22 Try.info5 (by decide) rfl h hs ao _ cap (lx.map by8) hx h3 (List.length_map ..) (Sli.lie hX) (by8_one _) (by omega) hbase ?_
  intro v' w' k1 k2 k3
  obtain ⟨ao', cap', rfl, -, -⟩ := own_form k1
  refine hK ao' cap' w' ?_ k3
  unfold OwnB
  rw [List.map_append, List.length_append]
  exact k1
set_option maxRecDepth 100000 in
set_option maxHeartbeats 2000000 in
theorem refRecord_bad (e : EV) (w : World) (h : EvOk w e) (hm : Rp.mayE e.ent = false) : Calls Try.prog 59 #[entV e] w fun r w' => ∃ c : Int, (c = 2 ∨ c = 3) ∧ r = .returned (.tuple #[.slice none 0 0, .int .i64 c]) ∧ Below w.heap.size w w' := by
  obtain ⟨i, t, v, body⟩ := e
  have hB : Bts w v body := h.1
  obtain ⟨ao, cap, rfl, b1, b2, b3⟩ := hB.form
  unfold maxLen at b2
  have hi := h.2.1
  have ht := h.2.2
  unfold Rp.N64 at hi ht
  simp only [EV.ent] at hi ht
  rcases mayE_bad _ hm with h0 | ⟨h0, h2⟩
  · simp only [EV.ent] at h0
    subst h0
    go_enter Try.func59, Try.ntmps59
    go_wp2_with fail
    go_ret2
    exact ⟨2, .inl rfl, rfl, Below.al (Below.refl _ _) _⟩
  · simp only [EV.ent] at h0 h2
    have h0' : ((i : Int) == 0) = false := by rw [beq_eq_false_iff_ne]; omega
    have h2' : (2000 : Int) < (body.length : Int) := by omega
    go_enter Try.func59, Try.ntmps59
    go_wp2_with fail
    go_ret2
    exact ⟨3, .inr rfl, rfl, Below.al (Below.refl _ _) _⟩
set_option maxRecDepth 100000 in
set_option maxHeartbeats 2000000 in
theorem refRecord_ok (e : EV) (w : World) (h : EvOk w e) (hm : Rp.mayE e.ent = true) : Calls Try.prog 59 #[entV e] w fun r w' => ∃ v, r = .returned (.tuple #[v, .int .i64 0]) ∧ OwnB w.heap.size w' v (Rp.record e.ent) ∧ Below w.heap.size w w' := by
  obtain ⟨i, t, v, body⟩ := e
  have hB : Bts w v body := h.1
  obtain ⟨ao, cap, rfl, b1, b2, b3⟩ := hB.form
  unfold maxLen at b2
  have hi := h.2.1
  have ht := h.2.2
  obtain ⟨h0, h2⟩ := mayE_ok _ hm
  unfold Rp.N64 at hi ht
  simp only [EV.ent] at hi ht h0 h2
  have h0' : ((i : Int) == 0) = false := by rw [beq_eq_false_iff_ne]; omega
  have h2' : ¬ (2000 : Int) < (body.length : Int) := by omega
  have hal := Below.al (Below.refl w.heap.size w) (.cells #[u64 i, u64 t, .slice ao body.length cap] 79)
  have kv := conv_str (hB.keep hal)
  have hT := refPutText_le ⟨body.toArray⟩ (w.alloc (.cells #[u64 i, u64 t, .slice ao body.length cap] 79)) (by rw [size_mk]; omega)
  rw [sb_mk] at hT
  have hl1 := Pk.put_len i
  have hl2 := Pk.put_len t
  have hl3 := Pk.put_len body.length
  have hlt : (Pk.putText body).length ≤ 2010 := by simp [Pk.putText]; omega
  show Calls Try.prog 59 #[.agg #[u64 i, u64 t, .slice ao body.length cap]] w fun r w' => ∃ v, r = .returned (.tuple #[v, .int .i64 0]) ∧ OwnB w.heap.size w' v (Pk.put i ++ (Pk.put t ++ Pk.putText body)) ∧ Below w.heap.size w w'
  generalize Pk.putText body = tx at hT hlt ⊢
  go_enter Try.func59, Try.ntmps59
  go_wp2_with (go_at_call 20; refine hT.mono ?_; rintro e w1 ⟨v1, rfl, hb1, ho1⟩; obtain ⟨xo, xc, rfl, -, -⟩ := own_form ho1)
  have hZ : w.heap.size < (w.alloc (.cells #[u64 i, u64 t, .slice ao body.length cap] 79)).heap.size := by simp
  have hrow : w1.heap[w.heap.size]? = some (.cells #[u64 i, u64 t, .slice ao body.length cap] 79 (0, 0)) := by rw [hb1.block _ hZ]; unfold World.alloc; simp
  have hzl := Nat.lt_of_lt_of_le hZ hb1.size
  have hb01 := Below.call hal hb1
  have c0 : ∀ w', Below w1.heap.size w1 w' → w'.cell? ⟨w.heap.size, 0, none⟩ = some (u64 i) := fun w' hw => by rw [cell_of_row w' _ 0 _ 79 (0, 0) ((hw.block _ hzl).trans hrow)]; rfl
  have c1 : ∀ w', Below w1.heap.size w1 w' → w'.cell? ⟨w.heap.size, 1, none⟩ = some (u64 t) := fun w' hw => by rw [cell_of_row w' _ 1 _ 79 (0, 0) ((hw.block _ hzl).trans hrow)]; rfl
  have tx1 := ho1.bts
  clear hT kv hal hrow ho1 hb1
  refine wp_region_held_drew (S := fun w' => Below w1.heap.size w1 w') (by kernel_rfl) (Below.refl _ _).drew (fun h0 => ?_)
  refine wpAnyH_take (i := 0) (oi := { dst := _, op := _, type := _, pos := _, after := _, guard := _ }) (v := ?va0) rfl (by kernel_rfl) (by kernel_rfl) (by kernel_rfl) (fun _ _ _ h => h) (Or.inl ⟨by rfl, ?ya0⟩) (by assumption) ?ra0; (case ya0 => intro w hSw; have d0 := c0 w hSw; have d1 := c1 w hSw; go_simp <;> with_reducible rfl); simp only [Act.put, List.setIfInBounds_toArray, List.set_cons_zero, List.set_cons_succ]
  refine wpAnyH_take (i := 1) (oi := { dst := _, op := _, type := _, pos := _, after := _, guard := _ }) (v := ?va1) rfl (by kernel_rfl) (by kernel_rfl) (by kernel_rfl) (fun _ _ _ h => h) (Or.inl ⟨by rfl, ?ya1⟩) (by assumption) ?ra1; (case ya1 => intro w hSw; have d0 := c0 w hSw; have d1 := c1 w hSw; go_simp <;> with_reducible rfl); simp only [Act.put, List.setIfInBounds_toArray, List.set_cons_zero, List.set_cons_succ]
  refine wpAnyH_take (i := 3) (oi := { dst := _, op := _, type := _, pos := _, after := _, guard := _ }) (v := ?va3) rfl (by kernel_rfl) (by kernel_rfl) (by kernel_rfl) (fun _ _ _ h => h) (Or.inl ⟨by rfl, ?ya3⟩) (by assumption) ?ra3; (case ya3 => intro w hSw; have d0 := c0 w hSw; have d1 := c1 w hSw; go_simp <;> with_reducible rfl); simp only [Act.put, List.setIfInBounds_toArray, List.set_cons_zero, List.set_cons_succ]
  refine wpAnyH_take (i := 4) (oi := { dst := _, op := _, type := _, pos := _, after := _, guard := _ }) (v := ?va4) rfl (by kernel_rfl) (by kernel_rfl) (by kernel_rfl) (fun _ _ _ h => h) (Or.inl ⟨by rfl, ?ya4⟩) (by assumption) ?ra4; (case ya4 => intro w hSw; have d0 := c0 w hSw; have d1 := c1 w hSw; go_simp <;> with_reducible rfl); simp only [Act.put, List.setIfInBounds_toArray, List.set_cons_zero, List.set_cons_succ]
  refine wpAnyH_take (i := 7) (oi := { dst := _, op := _, type := _, pos := _, after := _, guard := _ }) (v := ?va7) rfl (by kernel_rfl) (by kernel_rfl) (by kernel_rfl) (fun _ _ _ h => h) (Or.inl ⟨by rfl, ?ya7⟩) (by assumption) ?ra7; (case ya7 => intro w hSw; have d0 := c0 w hSw; have d1 := c1 w hSw; go_simp <;> with_reducible rfl); simp only [Act.put, List.setIfInBounds_toArray, List.set_cons_zero, List.set_cons_succ]
  refine wpAnyH_ready (rs := [2]) (by kernel_rfl) (by simp) ?_
  refine AllReadyH.cons (o := { dst := _, op := _, type := _, pos := _, after := _, guard := _ }) rfl (fun K hK => ?_) AllReadyH.nil
  go_simp
  refine (refPut_any i _ hi).mono ?_
  rintro e x1 ⟨y1, rfl, hy1, hc1⟩
  have hd1 : Below w1.heap.size w1 x1 := Below.call h0 hc1
  refine hK.out _ _ hd1 (fun _ => ?_)
  clear hK K
  refine wpAnyH_ready (rs := [5]) (by kernel_rfl) (by simp) ?_
  refine AllReadyH.cons (o := { dst := _, op := _, type := _, pos := _, after := _, guard := _ }) rfl (fun K hK => ?_) AllReadyH.nil
  go_simp
  refine (refPut_any t _ ht).mono ?_
  rintro e x2 ⟨y2, rfl, hy2, hc2⟩
  have hd2 : Below w1.heap.size w1 x2 := Below.call hd1 hc2
  refine hK.out _ _ hd2 (fun _ => ?_)
  clear hK K
  refine wpAnyH_ready (rs := [6]) (by kernel_rfl) (by simp) ?_
  refine AllReadyH.cons (o := { dst := _, op := _, type := _, pos := _, after := _, guard := _ }) rfl (fun K hK => ?_) AllReadyH.nil
  rw [if_pos (show Region.wanted _ _ = true from rfl)]
  refine wp_appB x2 _ _ rfl w1.heap.size (hy1.keep hc2) hy2.bts rfl rfl (by omega) hd2.size ?_
  intro ao3 ac3 x3 ho3 hc3
  have hd3 := hd2.trans hc3
  simp only [Act.put, List.setIfInBounds_toArray, List.set_cons_zero, List.set_cons_succ]
  refine hK.out _ _ hd3 (fun _ => ?_)
  clear hK K
  refine wpAnyH_ready (rs := [8]) (by kernel_rfl) (by simp) ?_
  refine AllReadyH.cons (o := { dst := _, op := _, type := _, pos := _, after := _, guard := _ }) rfl (fun K hK => ?_) AllReadyH.nil
  rw [if_pos (show Region.wanted _ _ = true from rfl)]
  refine wp_appB x3 _ _ rfl w1.heap.size ho3 (tx1.keep hd3) rfl rfl (by rw [List.length_append]; omega) hd3.size ?_
  intro ao4 ac4 x4 ho4 hc4
  have hd4 := hd3.trans hc4
  simp only [Act.put, List.setIfInBounds_toArray, List.set_cons_zero, List.set_cons_succ]
  refine hK.out _ _ hd4 (fun _ => ?_)
  clear hK K
  refine wpAnyH_take (i := 9) (oi := { dst := _, op := _, type := _, pos := _, after := _, guard := _ }) (v := ?va9) rfl (by kernel_rfl) (by kernel_rfl) (by kernel_rfl) (fun _ _ _ h => h) (Or.inl ⟨by rfl, ?ya9⟩) (by assumption) ?ra9; (case ya9 => intro w hSw; have d0 := c0 w hSw; have d1 := c1 w hSw; go_simp <;> with_reducible rfl); simp only [Act.put, List.setIfInBounds_toArray, List.set_cons_zero, List.set_cons_succ]
  refine wpAnyH_take (i := 10) (oi := { dst := _, op := _, type := _, pos := _, after := _, guard := _ }) (v := ?va10) rfl (by kernel_rfl) (by kernel_rfl) (by kernel_rfl) (fun _ _ _ h => h) (Or.inl ⟨by rfl, ?ya10⟩) (by assumption) ?ra10; (case ya10 => intro w hSw; have d0 := c0 w hSw; have d1 := c1 w hSw; go_simp <;> with_reducible rfl); simp only [Act.put, List.setIfInBounds_toArray, List.set_cons_zero, List.set_cons_succ]
  refine wpAnyH_done (by kernel_rfl) ?_ _
  go_wp2_with fail
  go_ret2
  have e1 : Pk.put i ++ Pk.put t ++ tx = Pk.put i ++ (Pk.put t ++ tx) := by simp
  rw [e1, show (Pk.put i ++ Pk.put t).length = (Pk.put i).length + (Pk.put t).length from List.length_append] at ho4
  exact ⟨_, rfl, ho4.mono hb01.size, hb01.trans (hd4.mono hb01.size)⟩
end Go.Proofs.Ytlcnjinabfbglaa
