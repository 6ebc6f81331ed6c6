import Derived.Test.YtaepkmjlkenenaaL6
import Derived.Test.YtaepkmjlkenenaaK2
namespace Go.Proofs.Ytaepkmjlkenenaa
open Go.RowKit

theorem map_step (l : List Int) (d : Int) (k : Nat) (h : k < l.length) : (l.take (k + 1)).map (· + d) = (l.take k).map (· + d) ++ [l.getD k 0 + d] := by
  rw [List.take_succ_eq_append_getElem h, List.map_append]
  simp [h]
theorem Lt.told_mem (l : Lt.Lot) : (∀ t, t ∈ Lt.dueOf l → t ∈ l.due ++ l.come) ∧ (∀ t, t ∈ Lt.skipOf l → t ∈ l.due ++ l.come) := by
  obtain ⟨D, S, C, h1, h2, h3⟩ := Lt.told l
  rw [h1, h2, h3]
  exact ⟨fun t ht => by simp at ht ⊢; rcases ht with ht | ht <;> simp [ht], fun t ht => by simp [ht]⟩
theorem own_next {B : Nat} {w : World} {v : Value} {l : List Int} {d : Int} {k : Nat} (hk : k < l.length) (h : w.ownsRow B 2 1 v (((l.take k).map (· + d)).length + 1) (((l.take k).map (· + d)).map i64v ++ [i64v (l.getD k 0 + d)])) : OwnI B w v ((l.take (k + 1)).map (· + d)) := by
  unfold OwnI
  rw [map_step l d k hk, List.length_append, List.map_append]
  exact h

set_option maxRecDepth 100000 in
set_option maxHeartbeats 4000000 in
theorem shift_main (l : Lt.Lot) (d g r : Int) (vd vc : Value) (w : World) (hD : Ints w vd l.due) (hC : Ints w vc l.come) (hm : Lt.may l = true)
    (hd0 : 0 ≤ d) (hd1 : d ≤ 4294967296) (hnd : l.now + d < 13569465600) (hg0 : 0 ≤ g) (hg1 : g ≤ 4294967296) (hlg : l.grace ≤ 4294967296) (hr0 : 0 ≤ r) (hr1 : l.room + r ≤ 64) (hr2 : r ≤ 64) :
    Calls Try.prog 4 #[lotV l vd vc, .int .i64 d, .int .i64 g, .int .i64 r] w fun e w' => e = .returned (.bool true) ∧ Below w.heap.size w w' := by
  obtain ⟨h, hr⟩ := (Lt.may_iff l).1 hm
  have hb0 : Below w.heap.size w (w.alloc (.cells #[.int .i64 l.pol, .int .i64 l.grace, .int .i64 l.now, vd, vc, .int .i64 l.room] 24)) := Below.al (Below.refl _ _) _
  have L := LotAt.new w l.pol l.grace l.now l.room vd vc
  have hD1 := hD.keep hb0
  have hC1 := hC.keep hb0
  obtain ⟨ao, ca, rfl, -, -, n1⟩ := hD.form
  obtain ⟨bo, cb, rfl, -, -, n2⟩ := hC.form
  unfold lotV
  generalize hW : w.alloc (.cells #[.int .i64 l.pol, .int .i64 l.grace, .int .i64 l.now, .slice ao l.due.length ca, .slice bo l.come.length cb, .int .i64 l.room] 24) = W at *
  have hrise : ∀ t, t ∈ l.due ++ l.come → 0 ≤ t ∧ t ≤ l.now := by
    intro t ht
    have := ((Lt.rises_iff l.now (l.due ++ l.come) (-1)).1 hr).1 t ht
    omega
  have hnow : l.now + d < 13569465600 := hnd
  have HR := Lib.hid hrise
  have g1 : ¬ (70 : Int) < (l.due.length : Int) := by omega
  have g2 : ¬ (70 : Int) < (l.come.length : Int) := by omega
  have k1 : ¬ d < 0 := by omega
  have k2 : ¬ 4294967296 < d := by omega
  have k3 : IntKind.i64.wrap (l.now + d) = l.now + d := wrap_small _ (by omega) (by omega)
  have k4 : ¬ 13569465600 ≤ l.now + d := by omega
  have k5 : ¬ g < 0 := by omega
  have k6 : ¬ 4294967296 < g := by omega
  have k7 : ¬ 4294967296 < l.grace := by omega
  have k8 : ¬ r < 0 := by omega
  have k9 : IntKind.i64.wrap (l.room + r) = l.room + r := wrap_small _ (by omega) (by omega)
  have k10 : ¬ 64 < l.room + r := by omega
  have k11 : ¬ 64 < r := by omega
  clear hrise
  go_enter Try.func4, Try.ntmps4
  go_wp2_with fail
  clear hW
  refine (known16_any _).mono ?_
  rintro e w1 ⟨rfl, hc1⟩
  replace L := L.keep hc1 L.lt
  replace hD1 := hD1.keep hc1
  replace hC1 := hC1.keep hc1
  replace hb0 := Below.call hb0 hc1
  obtain ⟨y0, y1, y2, y3, y4, y5⟩ := L.facts
  clear hc1
  go_wp2_with fail
  refine (may_any l _ _ _ hD1 hC1).mono ?_
  rw [hm]
  rintro e w2 ⟨rfl, hc2⟩
  replace L := L.keep hc2 L.lt
  replace hD1 := hD1.keep hc2
  replace hC1 := hC1.keep hc2
  replace hb0 := Below.call hb0 hc2
  clear y0 y1 y2 y3 y4 y5 hc2
  obtain ⟨y0, y1, y2, y3, y4, y5⟩ := L.facts
  go_wp2_with fail
  have M := LotAt.new w2 l.pol l.grace (l.now + d) l.room (.slice none 0 0) (.slice none 0 0)
  have hbM : Below w2.heap.size w2 (w2.alloc (.cells #[.int .i64 l.pol, .int .i64 l.grace, .int .i64 (l.now + d), .slice none 0 0, .slice none 0 0, .int .i64 l.room] 24)) := Below.al (Below.refl _ _) _
  generalize (w2.alloc (.cells #[.int .i64 l.pol, .int .i64 l.grace, .int .i64 (l.now + d), .slice none 0 0, .slice none 0 0, .int .i64 l.room] 24)) = W3 at *
  have c3 : ∀ w', Below w2.heap.size w2 w' → w'.cell? ⟨w.heap.size, 3, none⟩ = some (.slice ao l.due.length ca) := fun w' h => below_at h y3
  have c4 : ∀ w', Below w2.heap.size w2 w' → w'.cell? ⟨w.heap.size, 4, none⟩ = some (.slice bo l.come.length cb) := fun w' h => below_at h y4
  have HW := Lib.hid k3
  have HF := Lib.hid (And.intro c3 c4)
  have HK := Lib.hid (And.intro hD hC)
  have HK9 := Lib.hid k9
  clear k3 k9 c3 c4 y0 y1 y2 y3 y4 y5 hD hC
  generalize hB : w2.heap.size = b2 at *
  go_loopw [10] (fun ii wr => ∃ (k : Nat) (v : Value), ii = .int .i64 k ∧ k ≤ l.due.length ∧ LotAt wr b2 l.pol l.grace (l.now + d) v (.slice none 0 0) l.room ∧ OwnI (b2 + 1) wr v ((l.due.take k).map (· + d)) ∧ Below b2 w2 wr) (fun ii _ => l.due.length - (intOf ii).toNat)
  case atStart => exact ⟨0, .slice none 0 0, rfl, Nat.zero_le _, M, by unfold OwnI; simpa using World.ownsRow_nil W3 (b2 + 1) 2 1, hbM⟩
  case round =>
    obtain ⟨k, v, rfl, hk, M1, hO, hbr⟩ := hrel
    by_cases hlt : k < l.due.length
    · as_aux_lemma =>
      have hlt' : (k : Int) < (l.due.length : Int) := by omega
      have hyd : ∀ w', Below b2 w2 w' → w'.cell? ⟨w.heap.size, 3, none⟩ = some (.slice ao l.due.length ca) := HF.out.1
      have hy3 := hyd wr hbr
      obtain ⟨ab, aoff, rfl, hab, hca⟩ := Ints.at hD1 (by omega)
      rw [hB] at hab
      have hck := hca k hlt
      obtain ⟨x, hx⟩ : ∃ x, x = l.due.getD k 0 := ⟨_, rfl⟩
      rw [← hx] at hck
      have hxr : 0 ≤ x ∧ x ≤ l.now := HR.out x (by rw [hx]; simp [hlt])
      obtain ⟨hx0, hxn⟩ := hxr
      have hwx : IntKind.i64.wrap (x + d) = x + d := wrap_small _ (by omega) (by omega)
      have hyx : ∀ w', Below b2 w2 w' → w'.cell? ⟨ab, aoff + k, none⟩ = some (.int .i64 x) := fun w' h => (h.cell (p := ⟨ab, aoff + k, none⟩) hab).trans hck
      have hm3 := M1.facts.2.2.2.1
      have hb2 := M1.lt
      have HX := Lib.hid hx
      have hlen : ((l.due.take k).map (· + d)).length = k := by rw [List.length_map, List.length_take]; omega
      have HL := Lib.hid hlen
      skip
      clear hca hck hxn hx hlen
      go_wp2_with fail
      refine wp_region_held_drew (S := fun w' => Below b2 w2 w') (by kernel_rfl) hbr.drew (fun h0 => ?_)
      refine wpAnyH_take (i := 0) (oi := { dst := _, op := _, type := _, pos := _, after := _, guard := _ }) (v := ?vua0) rfl (by kernel_rfl) (by kernel_rfl) (by kernel_rfl) (fun _ _ _ h => h) (Or.inl ⟨by rfl, ?yua0⟩) (by assumption) ?rua0; (case yua0 => intro w hSw; have d3 := hyd w hSw; have d4 := hyx w hSw; go_simp <;> with_reducible rfl); simp only [Act.put, List.setIfInBounds_toArray, List.set_cons_zero, List.set_cons_succ]
      refine wpAnyH_take (i := 2) (oi := { dst := _, op := _, type := _, pos := _, after := _, guard := _ }) (v := ?vua2) rfl (by kernel_rfl) (by kernel_rfl) (by kernel_rfl) (fun _ _ _ h => h) (Or.inl ⟨by rfl, ?yua2⟩) (by assumption) ?rua2; (case yua2 => intro w hSw; have d3 := hyd w hSw; have d4 := hyx w hSw; go_simp <;> with_reducible rfl); simp only [Act.put, List.setIfInBounds_toArray, List.set_cons_zero, List.set_cons_succ]
      refine wpAnyH_take (i := 3) (oi := { dst := _, op := _, type := _, pos := _, after := _, guard := _ }) (v := ?vua3) rfl (by kernel_rfl) (by kernel_rfl) (by kernel_rfl) (fun _ _ _ h => h) (Or.inl ⟨by rfl, ?yua3⟩) (by assumption) ?rua3; (case yua3 => intro w hSw; have d3 := hyd w hSw; have d4 := hyx w hSw; go_simp <;> with_reducible rfl); simp only [Act.put, List.setIfInBounds_toArray, List.set_cons_zero, List.set_cons_succ]
      refine wpAnyH_take (i := 4) (oi := { dst := _, op := _, type := _, pos := _, after := _, guard := _ }) (v := ?vua4) rfl (by kernel_rfl) (by kernel_rfl) (by kernel_rfl) (fun _ _ _ h => h) (Or.inl ⟨by rfl, ?yua4⟩) (by assumption) ?rua4; (case yua4 => intro w hSw; have d3 := hyd w hSw; have d4 := hyx w hSw; go_simp <;> with_reducible rfl); simp only [Act.put, List.setIfInBounds_toArray, List.set_cons_zero, List.set_cons_succ]
      refine wpAnyH_take (i := 5) (oi := { dst := _, op := _, type := _, pos := _, after := _, guard := _ }) (v := ?vua5) rfl (by kernel_rfl) (by kernel_rfl) (by kernel_rfl) (fun _ _ _ h => h) (Or.inl ⟨by rfl, ?yua5⟩) (by assumption) ?rua5; (case yua5 => intro w hSw; have d3 := hyd w hSw; have d4 := hyx w hSw; go_simp <;> with_reducible rfl); simp only [Act.put, List.setIfInBounds_toArray, List.set_cons_zero, List.set_cons_succ]
      refine wpAnyH_take (i := 6) (oi := { dst := _, op := _, type := _, pos := _, after := _, guard := _ }) (v := ?vua6) rfl (by kernel_rfl) (by kernel_rfl) (by kernel_rfl) (fun _ _ _ h => h) (Or.inl ⟨by rfl, ?yua6⟩) (by assumption) ?rua6; (case yua6 => intro w hSw; have d3 := hyd w hSw; have d4 := hyx w hSw; go_simp <;> with_reducible rfl); simp only [Act.put, List.setIfInBounds_toArray, List.set_cons_zero, List.set_cons_succ]
      refine wpAnyH_take (i := 7) (oi := { dst := _, op := _, type := _, pos := _, after := _, guard := _ }) (v := ?vua7) rfl (by kernel_rfl) (by kernel_rfl) (by kernel_rfl) (fun _ _ _ h => h) (Or.inl ⟨by rfl, ?yua7⟩) (by assumption) ?rua7; (case yua7 => intro w hSw; have d3 := hyd w hSw; have d4 := hyx w hSw; go_simp <;> with_reducible rfl); simp only [Act.put, List.setIfInBounds_toArray, List.set_cons_zero, List.set_cons_succ]
      refine wpAnyH_take (i := 8) (oi := { dst := _, op := _, type := _, pos := _, after := _, guard := _ }) (v := ?vua8) rfl (by kernel_rfl) (by kernel_rfl) (by kernel_rfl) (fun _ _ _ h => h) (Or.inl ⟨by rfl, ?yua8⟩) (by assumption) ?rua8; (case yua8 => intro w hSw; have d3 := hyd w hSw; have d4 := hyx w hSw; go_simp <;> with_reducible rfl); simp only [Act.put, List.setIfInBounds_toArray, List.set_cons_zero, List.set_cons_succ]
      refine wpAnyH_ready (rs := [1, 9]) (by kernel_rfl) (by simp) ?_
      refine AllReadyH.cons (o := { dst := _, op := _, type := _, pos := _, after := _, guard := _ }) rfl (fun K hK => ?o1) (AllReadyH.cons (o := { dst := _, op := _, type := _, pos := _, after := _, guard := _ }) rfl (fun K hK => ?o9) AllReadyH.nil)
      case o1 =>
        go_simp
        refine hK.out _ _ hbr.drew (fun _ => ?_)
        clear hK K
        refine wpAnyH_ready (rs := [9]) (by kernel_rfl) (by simp) ?_
        refine AllReadyH.cons (o := { dst := _, op := _, type := _, pos := _, after := _, guard := _ }) rfl (fun K hK => ?_) AllReadyH.nil
        go_simp
        refine hK.out _ _ (hbr.alloc (Nat.le_of_lt hb2) _).drew (fun _ => ?_)
        clear hK K
        refine wpAnyH_ready (rs := [10]) (by kernel_rfl) (by simp) ?_
        refine AllReadyH.cons (o := { dst := _, op := _, type := _, pos := _, after := _, guard := _ }) rfl (fun K hK => ?_) AllReadyH.nil
        rw [if_pos (show Region.wanted _ _ = true from rfl)]
        refine wp_app1 wr.drew _ _ 22 rfl (b2 + 1) 2 (.int .i64 0) 8 Try.underlying22 Try.info2 (by decide) rfl (World.ownsRow.drew hO) (.int .i64 (x + d)) rfl rfl rfl rfl (by rw [HL.out]; omega) hb2 ?_
        rw [HL.out]
        intro v4 w4 ho4 j4
        have hbr4 : Below b2 w2 w4 := (hbr.drew).trans (j4.mono (by omega))
        have M4 : LotAt w4 b2 l.pol l.grace (l.now + d) v (.slice none 0 0) l.room := by unfold LotAt; rw [j4.block b2 (by omega)]; exact M1
        simp only [Act.put, List.setIfInBounds_toArray, List.set_cons_zero, List.set_cons_succ]
        refine hK.out _ _ hbr4 (fun _ => ?_)
        clear hK K
        refine wpAnyH_take (i := 11) (oi := { dst := _, op := _, type := _, pos := _, after := _, guard := _ }) (v := ?vub11) rfl (by kernel_rfl) (by kernel_rfl) (by kernel_rfl) (fun _ _ _ h => h) (Or.inl ⟨by rfl, ?yub11⟩) (by assumption) ?rub11; (case yub11 => intro w hSw; have d3 := hyd w hSw; have d4 := hyx w hSw; go_simp <;> with_reducible rfl); simp only [Act.put, List.setIfInBounds_toArray, List.set_cons_zero, List.set_cons_succ]
        refine wpAnyH_ready (rs := [12]) (by kernel_rfl) (by simp) ?_
        refine AllReadyH.cons (o := { dst := _, op := _, type := _, pos := _, after := _, guard := _ }) rfl (fun K hK => ?_) AllReadyH.nil
        obtain ⟨p4, cp4, rfl, -, -⟩ := own_form ho4
        have f4 := M4.froz 3
        have q4 := M4.facts.2.2.2.1
        rw [if_pos (show Region.wanted _ _ = true from rfl)]
        go_simp
        have hbr5 : Below b2 w2 (w4.setCell ⟨b2, 3, none⟩ (.slice p4 (k + 1) cp4)) := hbr4.setCell (p := ⟨b2, 3, none⟩) (Nat.le_refl _) _
        have M5 := M4.set3 (.slice p4 (k + 1) cp4)
        have O5 : OwnI (b2 + 1) (w4.setCell ⟨b2, 3, none⟩ (.slice p4 (k + 1) cp4)) (.slice p4 (k + 1) cp4) ((l.due.take (k + 1)).map (· + d)) := by
          refine own_next hlt ?_
          rw [HL.out, ← HX.out]
          exact own_keepAt ho4 (fun j hj => Below.heap_setCell _ _ _ _ (by have := (World.ownsRow.lt ho4 j hj).1; simp; omega))
        refine hK.out _ _ hbr5 (fun _ => ?_)
        clear hK K f4 q4
        refine wpAnyH_done (by kernel_rfl) ?_ _
        go_wp2_with fail
        exact ⟨⟨k + 1, _, by go_num, by omega, M5, O5, hbr5⟩, by simp [intOf]; omega⟩
      case o9 =>
        go_simp
        refine hK.out _ _ (hbr.alloc (Nat.le_of_lt hb2) _).drew (fun _ => ?_)
        clear hK K
        have hm3' : (wr.alloc (.cells #[.int .i64 (x + d)] 2)).cell? ⟨b2, 3, none⟩ = some v := ((Below.refl _ wr).alloc (Nat.le_refl _) _).cell (p := ⟨b2, 3, none⟩) hb2 |>.trans hm3
        refine wpAnyH_ready (rs := [1]) (by kernel_rfl) (by simp) ?_
        refine AllReadyH.cons (o := { dst := _, op := _, type := _, pos := _, after := _, guard := _ }) rfl (fun K hK => ?_) AllReadyH.nil
        go_simp
        refine hK.out _ _ (hbr.alloc (Nat.le_of_lt hb2) _).drew (fun _ => ?_)
        clear hK K hm3'
        refine wpAnyH_ready (rs := [10]) (by kernel_rfl) (by simp) ?_
        refine AllReadyH.cons (o := { dst := _, op := _, type := _, pos := _, after := _, guard := _ }) rfl (fun K hK => ?_) AllReadyH.nil
        rw [if_pos (show Region.wanted _ _ = true from rfl)]
        refine wp_app1 wr.drew _ _ 22 rfl (b2 + 1) 2 (.int .i64 0) 8 Try.underlying22 Try.info2 (by decide) rfl (World.ownsRow.drew hO) (.int .i64 (x + d)) rfl rfl rfl rfl (by rw [HL.out]; omega) hb2 ?_
        rw [HL.out]
        intro v4 w4 ho4 j4
        have hbr4 : Below b2 w2 w4 := (hbr.drew).trans (j4.mono (by omega))
        have M4 : LotAt w4 b2 l.pol l.grace (l.now + d) v (.slice none 0 0) l.room := by unfold LotAt; rw [j4.block b2 (by omega)]; exact M1
        simp only [Act.put, List.setIfInBounds_toArray, List.set_cons_zero, List.set_cons_succ]
        refine hK.out _ _ hbr4 (fun _ => ?_)
        clear hK K
        refine wpAnyH_take (i := 11) (oi := { dst := _, op := _, type := _, pos := _, after := _, guard := _ }) (v := ?vuc11) rfl (by kernel_rfl) (by kernel_rfl) (by kernel_rfl) (fun _ _ _ h => h) (Or.inl ⟨by rfl, ?yuc11⟩) (by assumption) ?ruc11; (case yuc11 => intro w hSw; have d3 := hyd w hSw; have d4 := hyx w hSw; go_simp <;> with_reducible rfl); simp only [Act.put, List.setIfInBounds_toArray, List.set_cons_zero, List.set_cons_succ]
        refine wpAnyH_ready (rs := [12]) (by kernel_rfl) (by simp) ?_
        refine AllReadyH.cons (o := { dst := _, op := _, type := _, pos := _, after := _, guard := _ }) rfl (fun K hK => ?_) AllReadyH.nil
        obtain ⟨p4, cp4, rfl, -, -⟩ := own_form ho4
        have f4 := M4.froz 3
        have q4 := M4.facts.2.2.2.1
        rw [if_pos (show Region.wanted _ _ = true from rfl)]
        go_simp
        have hbr5 : Below b2 w2 (w4.setCell ⟨b2, 3, none⟩ (.slice p4 (k + 1) cp4)) := hbr4.setCell (p := ⟨b2, 3, none⟩) (Nat.le_refl _) _
        have M5 := M4.set3 (.slice p4 (k + 1) cp4)
        have O5 : OwnI (b2 + 1) (w4.setCell ⟨b2, 3, none⟩ (.slice p4 (k + 1) cp4)) (.slice p4 (k + 1) cp4) ((l.due.take (k + 1)).map (· + d)) := by
          refine own_next hlt ?_
          rw [HL.out, ← HX.out]
          exact own_keepAt ho4 (fun j hj => Below.heap_setCell _ _ _ _ (by have := (World.ownsRow.lt ho4 j hj).1; simp; omega))
        refine hK.out _ _ hbr5 (fun _ => ?_)
        clear hK K f4 q4
        refine wpAnyH_done (by kernel_rfl) ?_ _
        go_wp2_with fail
        exact ⟨⟨k + 1, _, by go_num, by omega, M5, O5, hbr5⟩, by simp [intOf]; omega⟩
    · obtain rfl : k = l.due.length := by omega
      rw [List.take_length] at hO
      have hyd : ∀ w', Below b2 w2 w' → w'.cell? ⟨w.heap.size, 3, none⟩ = some (.slice ao l.due.length ca) := HF.out.1
      have hy3 := hyd wr hbr
      obtain ⟨b3, hb3e⟩ : ∃ b3, b3 = wr.heap.size := ⟨_, rfl⟩
      have hvo : ∀ j, v.ownBlock = some j → j < b3 := fun j hj => by rw [hb3e]; exact (World.ownsRow.lt hO j hj).2
      obtain ⟨vm, rfl⟩ : ∃ vm, vm = v := ⟨_, rfl⟩
      have hOm0 := hO
      clear hO hyd
      have hb23 : b2 < b3 := by rw [hb3e]; exact M1.lt
      have HVO := Lib.hid hvo
      have HE := Lib.hid hb3e
      have hbr3 := hbr
      have Mm := M1
      have hle3 : b3 ≤ wr.heap.size := by omega
      clear hvo hb3e hlt hk hbr M1
      go_wp2_with fail
      clear hy3
      rename World => wr3
      go_loopw [11] (fun ii wr => ∃ (k : Nat) (v : Value), ii = .int .i64 k ∧ k ≤ l.come.length ∧ LotAt wr b2 l.pol l.grace (l.now + d) vm v l.room ∧ OwnI b3 wr v ((l.come.take k).map (· + d)) ∧ Below b2 w2 wr ∧ OwnI (b2 + 1) wr vm (l.due.map (· + d)) ∧ b3 ≤ wr.heap.size) (fun ii _ => l.come.length - (intOf ii).toNat)
      case atStart => exact ⟨0, .slice none 0 0, rfl, Nat.zero_le _, Mm, by unfold OwnI; simpa using World.ownsRow_nil _ b3 2 1, hbr3, hOm0, hle3⟩
      case round =>
        clear Mm hbr3 hOm0 hle3
        obtain ⟨k, v, rfl, hk, M1, hO, hbr, hOm, hb3⟩ := hrel
        have hvo := HVO.out
        by_cases hlt : k < l.come.length
        · as_aux_lemma =>
          have hlt' : (k : Int) < (l.come.length : Int) := by omega
          have hyd : ∀ w', Below b2 w2 w' → w'.cell? ⟨w.heap.size, 4, none⟩ = some (.slice bo l.come.length cb) := HF.out.2
          have hy3 := hyd wr hbr
          obtain ⟨ab, aoff, rfl, hab, hca⟩ := Ints.at hC1 (by omega)
          rw [hB] at hab
          have hck := hca k hlt
          obtain ⟨x, hx⟩ : ∃ x, x = l.come.getD k 0 := ⟨_, rfl⟩
          rw [← hx] at hck
          have hxr : 0 ≤ x ∧ x ≤ l.now := HR.out x (by rw [hx]; simp [hlt])
          obtain ⟨hx0, hxn⟩ := hxr
          have hwx : IntKind.i64.wrap (x + d) = x + d := wrap_small _ (by omega) (by omega)
          have hyx : ∀ w', Below b2 w2 w' → w'.cell? ⟨ab, aoff + k, none⟩ = some (.int .i64 x) := fun w' h => (h.cell (p := ⟨ab, aoff + k, none⟩) hab).trans hck
          have hm3 := M1.facts.2.2.2.2.1
          have hb2 := M1.lt
          have HX := Lib.hid hx
          have hlen : ((l.come.take k).map (· + d)).length = k := by rw [List.length_map, List.length_take]; omega
          have HL := Lib.hid hlen
          have hVo := Lib.hid hvo
          clear hca hck hxn hx hlen
          go_wp2_with fail
          refine wp_region_held_drew (S := fun w' => Below b2 w2 w') (by kernel_rfl) hbr.drew (fun h0 => ?_)
          refine wpAnyH_take (i := 0) (oi := { dst := _, op := _, type := _, pos := _, after := _, guard := _ }) (v := ?vva0) rfl (by kernel_rfl) (by kernel_rfl) (by kernel_rfl) (fun _ _ _ h => h) (Or.inl ⟨by rfl, ?yva0⟩) (by assumption) ?rva0; (case yva0 => intro w hSw; have d3 := hyd w hSw; have d4 := hyx w hSw; go_simp <;> with_reducible rfl); simp only [Act.put, List.setIfInBounds_toArray, List.set_cons_zero, List.set_cons_succ]
          refine wpAnyH_take (i := 2) (oi := { dst := _, op := _, type := _, pos := _, after := _, guard := _ }) (v := ?vva2) rfl (by kernel_rfl) (by kernel_rfl) (by kernel_rfl) (fun _ _ _ h => h) (Or.inl ⟨by rfl, ?yva2⟩) (by assumption) ?rva2; (case yva2 => intro w hSw; have d3 := hyd w hSw; have d4 := hyx w hSw; go_simp <;> with_reducible rfl); simp only [Act.put, List.setIfInBounds_toArray, List.set_cons_zero, List.set_cons_succ]
          refine wpAnyH_take (i := 3) (oi := { dst := _, op := _, type := _, pos := _, after := _, guard := _ }) (v := ?vva3) rfl (by kernel_rfl) (by kernel_rfl) (by kernel_rfl) (fun _ _ _ h => h) (Or.inl ⟨by rfl, ?yva3⟩) (by assumption) ?rva3; (case yva3 => intro w hSw; have d3 := hyd w hSw; have d4 := hyx w hSw; go_simp <;> with_reducible rfl); simp only [Act.put, List.setIfInBounds_toArray, List.set_cons_zero, List.set_cons_succ]
          refine wpAnyH_take (i := 4) (oi := { dst := _, op := _, type := _, pos := _, after := _, guard := _ }) (v := ?vva4) rfl (by kernel_rfl) (by kernel_rfl) (by kernel_rfl) (fun _ _ _ h => h) (Or.inl ⟨by rfl, ?yva4⟩) (by assumption) ?rva4; (case yva4 => intro w hSw; have d3 := hyd w hSw; have d4 := hyx w hSw; go_simp <;> with_reducible rfl); simp only [Act.put, List.setIfInBounds_toArray, List.set_cons_zero, List.set_cons_succ]
          refine wpAnyH_take (i := 5) (oi := { dst := _, op := _, type := _, pos := _, after := _, guard := _ }) (v := ?vva5) rfl (by kernel_rfl) (by kernel_rfl) (by kernel_rfl) (fun _ _ _ h => h) (Or.inl ⟨by rfl, ?yva5⟩) (by assumption) ?rva5; (case yva5 => intro w hSw; have d3 := hyd w hSw; have d4 := hyx w hSw; go_simp <;> with_reducible rfl); simp only [Act.put, List.setIfInBounds_toArray, List.set_cons_zero, List.set_cons_succ]
          refine wpAnyH_take (i := 6) (oi := { dst := _, op := _, type := _, pos := _, after := _, guard := _ }) (v := ?vva6) rfl (by kernel_rfl) (by kernel_rfl) (by kernel_rfl) (fun _ _ _ h => h) (Or.inl ⟨by rfl, ?yva6⟩) (by assumption) ?rva6; (case yva6 => intro w hSw; have d3 := hyd w hSw; have d4 := hyx w hSw; go_simp <;> with_reducible rfl); simp only [Act.put, List.setIfInBounds_toArray, List.set_cons_zero, List.set_cons_succ]
          refine wpAnyH_take (i := 7) (oi := { dst := _, op := _, type := _, pos := _, after := _, guard := _ }) (v := ?vva7) rfl (by kernel_rfl) (by kernel_rfl) (by kernel_rfl) (fun _ _ _ h => h) (Or.inl ⟨by rfl, ?yva7⟩) (by assumption) ?rva7; (case yva7 => intro w hSw; have d3 := hyd w hSw; have d4 := hyx w hSw; go_simp <;> with_reducible rfl); simp only [Act.put, List.setIfInBounds_toArray, List.set_cons_zero, List.set_cons_succ]
          refine wpAnyH_take (i := 8) (oi := { dst := _, op := _, type := _, pos := _, after := _, guard := _ }) (v := ?vva8) rfl (by kernel_rfl) (by kernel_rfl) (by kernel_rfl) (fun _ _ _ h => h) (Or.inl ⟨by rfl, ?yva8⟩) (by assumption) ?rva8; (case yva8 => intro w hSw; have d3 := hyd w hSw; have d4 := hyx w hSw; go_simp <;> with_reducible rfl); simp only [Act.put, List.setIfInBounds_toArray, List.set_cons_zero, List.set_cons_succ]
          refine wpAnyH_ready (rs := [1, 9]) (by kernel_rfl) (by simp) ?_
          refine AllReadyH.cons (o := { dst := _, op := _, type := _, pos := _, after := _, guard := _ }) rfl (fun K hK => ?o1) (AllReadyH.cons (o := { dst := _, op := _, type := _, pos := _, after := _, guard := _ }) rfl (fun K hK => ?o9) AllReadyH.nil)
          case o1 =>
            go_simp
            refine hK.out _ _ hbr.drew (fun _ => ?_)
            clear hK K
            refine wpAnyH_ready (rs := [9]) (by kernel_rfl) (by simp) ?_
            refine AllReadyH.cons (o := { dst := _, op := _, type := _, pos := _, after := _, guard := _ }) rfl (fun K hK => ?_) AllReadyH.nil
            go_simp
            refine hK.out _ _ (hbr.alloc (Nat.le_of_lt hb2) _).drew (fun _ => ?_)
            clear hK K
            refine wpAnyH_ready (rs := [10]) (by kernel_rfl) (by simp) ?_
            refine AllReadyH.cons (o := { dst := _, op := _, type := _, pos := _, after := _, guard := _ }) rfl (fun K hK => ?_) AllReadyH.nil
            rw [if_pos (show Region.wanted _ _ = true from rfl)]
            refine wp_app1 wr.drew _ _ 22 rfl b3 2 (.int .i64 0) 8 Try.underlying22 Try.info2 (by decide) rfl (World.ownsRow.drew hO) (.int .i64 (x + d)) rfl rfl rfl rfl (by rw [HL.out]; omega) hb3 ?_
            rw [HL.out]
            intro v4 w4 ho4 j4
            have hbr4 : Below b2 w2 w4 := (hbr.drew).trans (j4.mono (by omega))
            have M4 : LotAt w4 b2 l.pol l.grace (l.now + d) vm v l.room := by unfold LotAt; rw [j4.block b2 (by omega)]; exact M1
            have O4 : OwnI (b2 + 1) w4 vm (l.due.map (· + d)) := own_keepAt (World.ownsRow.drew hOm) (fun j hj => j4.block j (hVo.out j hj))
            have z4 : b3 ≤ w4.heap.size := Nat.le_trans hb3 j4.size
            simp only [Act.put, List.setIfInBounds_toArray, List.set_cons_zero, List.set_cons_succ]
            refine hK.out _ _ hbr4 (fun _ => ?_)
            clear hK K
            refine wpAnyH_take (i := 11) (oi := { dst := _, op := _, type := _, pos := _, after := _, guard := _ }) (v := ?vvb11) rfl (by kernel_rfl) (by kernel_rfl) (by kernel_rfl) (fun _ _ _ h => h) (Or.inl ⟨by rfl, ?yvb11⟩) (by assumption) ?rvb11; (case yvb11 => intro w hSw; have d3 := hyd w hSw; have d4 := hyx w hSw; go_simp <;> with_reducible rfl); simp only [Act.put, List.setIfInBounds_toArray, List.set_cons_zero, List.set_cons_succ]
            refine wpAnyH_ready (rs := [12]) (by kernel_rfl) (by simp) ?_
            refine AllReadyH.cons (o := { dst := _, op := _, type := _, pos := _, after := _, guard := _ }) rfl (fun K hK => ?_) AllReadyH.nil
            obtain ⟨p4, cp4, rfl, -, -⟩ := own_form ho4
            have f4 := M4.froz 4
            have q4 := M4.facts.2.2.2.2.1
            rw [if_pos (show Region.wanted _ _ = true from rfl)]
            go_simp
            have hbr5 : Below b2 w2 (w4.setCell ⟨b2, 4, none⟩ (.slice p4 (k + 1) cp4)) := hbr4.setCell (p := ⟨b2, 4, none⟩) (Nat.le_refl _) _
            have M5 := M4.set4 (.slice p4 (k + 1) cp4)
            have O5 : OwnI b3 (w4.setCell ⟨b2, 4, none⟩ (.slice p4 (k + 1) cp4)) (.slice p4 (k + 1) cp4) ((l.come.take (k + 1)).map (· + d)) := by
              refine own_next hlt ?_
              rw [HL.out, ← HX.out]
              exact own_keepAt ho4 (fun j hj => Below.heap_setCell _ _ _ _ (by have := (World.ownsRow.lt ho4 j hj).1; simp; omega))
            have O6 : OwnI (b2 + 1) (w4.setCell ⟨b2, 4, none⟩ (.slice p4 (k + 1) cp4)) vm (l.due.map (· + d)) := own_keepAt O4 (fun j hj => Below.heap_setCell _ _ _ _ (by have := (World.ownsRow.lt O4 j hj).1; simp; omega))
            have z5 : b3 ≤ (w4.setCell ⟨b2, 4, none⟩ (.slice p4 (k + 1) cp4)).heap.size := by simpa [World.setCell] using z4
            refine hK.out _ _ hbr5 (fun _ => ?_)
            clear hK K f4 q4
            refine wpAnyH_done (by kernel_rfl) ?_ _
            go_wp2_with fail
            exact ⟨⟨k + 1, _, by go_num, by omega, M5, O5, hbr5, O6, z5⟩, by simp [intOf]; omega⟩
          case o9 =>
            go_simp
            refine hK.out _ _ (hbr.alloc (Nat.le_of_lt hb2) _).drew (fun _ => ?_)
            clear hK K
            have hm3' : (wr.alloc (.cells #[.int .i64 (x + d)] 2)).cell? ⟨b2, 4, none⟩ = some v := ((Below.refl _ wr).alloc (Nat.le_refl _) _).cell (p := ⟨b2, 4, none⟩) hb2 |>.trans hm3
            refine wpAnyH_ready (rs := [1]) (by kernel_rfl) (by simp) ?_
            refine AllReadyH.cons (o := { dst := _, op := _, type := _, pos := _, after := _, guard := _ }) rfl (fun K hK => ?_) AllReadyH.nil
            go_simp
            refine hK.out _ _ (hbr.alloc (Nat.le_of_lt hb2) _).drew (fun _ => ?_)
            clear hK K hm3'
            refine wpAnyH_ready (rs := [10]) (by kernel_rfl) (by simp) ?_
            refine AllReadyH.cons (o := { dst := _, op := _, type := _, pos := _, after := _, guard := _ }) rfl (fun K hK => ?_) AllReadyH.nil
            rw [if_pos (show Region.wanted _ _ = true from rfl)]
            refine wp_app1 wr.drew _ _ 22 rfl b3 2 (.int .i64 0) 8 Try.underlying22 Try.info2 (by decide) rfl (World.ownsRow.drew hO) (.int .i64 (x + d)) rfl rfl rfl rfl (by rw [HL.out]; omega) hb3 ?_
            rw [HL.out]
            intro v4 w4 ho4 j4
            have hbr4 : Below b2 w2 w4 := (hbr.drew).trans (j4.mono (by omega))
            have M4 : LotAt w4 b2 l.pol l.grace (l.now + d) vm v l.room := by unfold LotAt; rw [j4.block b2 (by omega)]; exact M1
            have O4 : OwnI (b2 + 1) w4 vm (l.due.map (· + d)) := own_keepAt (World.ownsRow.drew hOm) (fun j hj => j4.block j (hVo.out j hj))
            have z4 : b3 ≤ w4.heap.size := Nat.le_trans hb3 j4.size
            simp only [Act.put, List.setIfInBounds_toArray, List.set_cons_zero, List.set_cons_succ]
            refine hK.out _ _ hbr4 (fun _ => ?_)
            clear hK K
            refine wpAnyH_take (i := 11) (oi := { dst := _, op := _, type := _, pos := _, after := _, guard := _ }) (v := ?vvc11) rfl (by kernel_rfl) (by kernel_rfl) (by kernel_rfl) (fun _ _ _ h => h) (Or.inl ⟨by rfl, ?yvc11⟩) (by assumption) ?rvc11; (case yvc11 => intro w hSw; have d3 := hyd w hSw; have d4 := hyx w hSw; go_simp <;> with_reducible rfl); simp only [Act.put, List.setIfInBounds_toArray, List.set_cons_zero, List.set_cons_succ]
            refine wpAnyH_ready (rs := [12]) (by kernel_rfl) (by simp) ?_
            refine AllReadyH.cons (o := { dst := _, op := _, type := _, pos := _, after := _, guard := _ }) rfl (fun K hK => ?_) AllReadyH.nil
            obtain ⟨p4, cp4, rfl, -, -⟩ := own_form ho4
            have f4 := M4.froz 4
            have q4 := M4.facts.2.2.2.2.1
            rw [if_pos (show Region.wanted _ _ = true from rfl)]
            go_simp
            have hbr5 : Below b2 w2 (w4.setCell ⟨b2, 4, none⟩ (.slice p4 (k + 1) cp4)) := hbr4.setCell (p := ⟨b2, 4, none⟩) (Nat.le_refl _) _
            have M5 := M4.set4 (.slice p4 (k + 1) cp4)
            have O5 : OwnI b3 (w4.setCell ⟨b2, 4, none⟩ (.slice p4 (k + 1) cp4)) (.slice p4 (k + 1) cp4) ((l.come.take (k + 1)).map (· + d)) := by
              refine own_next hlt ?_
              rw [HL.out, ← HX.out]
              exact own_keepAt ho4 (fun j hj => Below.heap_setCell _ _ _ _ (by have := (World.ownsRow.lt ho4 j hj).1; simp; omega))
            have O6 : OwnI (b2 + 1) (w4.setCell ⟨b2, 4, none⟩ (.slice p4 (k + 1) cp4)) vm (l.due.map (· + d)) := own_keepAt O4 (fun j hj => Below.heap_setCell _ _ _ _ (by have := (World.ownsRow.lt O4 j hj).1; simp; omega))
            have z5 : b3 ≤ (w4.setCell ⟨b2, 4, none⟩ (.slice p4 (k + 1) cp4)).heap.size := by simpa [World.setCell] using z4
            refine hK.out _ _ hbr5 (fun _ => ?_)
            clear hK K f4 q4
            refine wpAnyH_done (by kernel_rfl) ?_ _
            go_wp2_with fail
            exact ⟨⟨k + 1, _, by go_num, by omega, M5, O5, hbr5, O6, z5⟩, by simp [intOf]; omega⟩
        · as_aux_lemma =>
          obtain rfl : k = l.come.length := by omega
          rw [List.take_length] at hO
          have hbr' : Below w2.heap.size w2 wr := by rw [hB]; exact hbr
          have LL := L.keep hbr' L.lt
          have hDD := hD1.keep hbr'
          have hCC := hC1.keep hbr'
          have hCm := hO.ints
          have hDm := hOm.ints
          have hbw := Below.call hb0 hbr'
          have hMl := M1.lt
          have hyd : ∀ w', Below b2 w2 w' → w'.cell? ⟨w.heap.size, 4, none⟩ = some (.slice bo l.come.length cb) := HF.out.2
          obtain ⟨y0, y1, y2, y3, y4, y5⟩ := LL.facts
          rename Nat => b3
          have HJ := Lib.hid (And.intro (Lt.told_mem l) (Lt.wide_due l g r hm hg0 hr0))
          clear L hD1 hC1 HF HVO HE hO hOm hbr hbr' hb3 hb23 hvo hlt hyd
          go_wp2_with fail
          refine (judge_yes l _ _ _ hDD hCC hm).mono ?_
          rintro e w5 ⟨vu, vs, rfl, hU, hS, hc5⟩
          clear y0 y1 y2 y3 y4 y5
          replace LL := LL.keep hc5 LL.lt
          replace hDm := hDm.keep hc5
          replace hCm := hCm.keep hc5
          replace M1 := M1.keep hc5 M1.lt
          replace hbw := Below.call hbw hc5
          obtain ⟨m0, m1, m2, m3, m4, m5⟩ := M1.facts
          clear hc5 hDD hCC
          go_wp2_with fail
          refine (judge_yes (Lt.shift l d) _ _ _ hDm hCm (Lt.shift_may l d hm hd0 hnd)).mono ?_
          rw [(Lt.shift_due l d).1, (Lt.shift_due l d).2]
          rintro e w6 ⟨vu2, vs2, rfl, hU2, hS2, hc6⟩
          clear m0 m1 m2 m3 m4 m5 M1 hDm hCm
          replace LL := LL.keep hc6 LL.lt
          replace hU := hU.keep hc6
          replace hS := hS.keep hc6
          replace hbw := Below.call hbw hc6
          clear hc6 hMl
          have hpd : ∀ t, t ∈ Lt.dueOf l → 0 ≤ t ∧ t ≤ l.now := fun t ht => HR.out t (HJ.out.1.1 t ht)
          have hps : ∀ t, t ∈ Lt.skipOf l → 0 ≤ t ∧ t ≤ l.now := fun t ht => HR.out t (HJ.out.1.2 t ht)
          have HP := Lib.hid (And.intro hpd hps)
          clear hpd hps HR
          obtain ⟨uo, uc, rfl, -, -, -⟩ := Ints.form hU
          obtain ⟨so, sc, rfl, -, -, -⟩ := Ints.form hS
          obtain ⟨uo2, uc2, rfl, -, -, -⟩ := Ints.form hU2
          obtain ⟨so2, sc2, rfl, -, -, -⟩ := Ints.form hS2
          go_wp2_with fail
          go_loopw [18] (fun ii wr => ∃ k : Nat, ii = .int .i64 k ∧ k ≤ (Lt.dueOf l).length ∧ Below w6.heap.size w6 wr) (fun ii _ => (Lt.dueOf l).length - (intOf ii).toNat)
          case atStart => exact ⟨0, rfl, Nat.zero_le _, Below.refl _ _⟩
          case round =>
            obtain ⟨k, rfl, hk, hbr⟩ := hrel
            by_cases hlt : k < (Lt.dueOf l).length
            · as_aux_lemma =>
              have hk128 : k < 128 := by have := Lt.sum_len l; omega
              have hlt' : (k : Int) < ((Lt.dueOf l).length : Int) := by omega
              have hUk := hU.keep hbr
              have hUk2 := hU2.keep hbr
              obtain ⟨ab, aoff, rfl, -, hca⟩ := Ints.at hUk (by omega)
              obtain ⟨cb, coff, rfl, -, hcc⟩ := Ints.at hUk2 (by rw [List.length_map]; omega)
              have hck := hca k hlt
              have hcd := hcc k (by rw [List.length_map]; omega)
              have hxx : ((Lt.dueOf l).map (· + d)).getD k 0 = (Lt.dueOf l).getD k 0 + d := by simp [hlt]
              rw [hxx] at hcd
              obtain ⟨x, hx⟩ : ∃ x, x = (Lt.dueOf l).getD k 0 := ⟨_, rfl⟩
              rw [← hx] at hck hcd
              have hwx : IntKind.i64.wrap (x + d) = x + d := by
                have := HP.out.1 x (by rw [hx]; simp [hlt])
                exact wrap_small _ (by omega) (by omega)
              clear hca hcc hxx hx
              go_wp2_with fail
              refine wp_region_held_drew (S := fun w' => w' = wr.drew) (by kernel_rfl) rfl (fun _ => ?_)
              first
                | (refine wpAnyH_take (i := 0) (oi := { dst := _, op := _, type := _, pos := _, after := _, guard := _ }) (v := ?vw180) rfl (by kernel_rfl) (by kernel_rfl) (by kernel_rfl) (fun _ _ _ h => h) (Or.inl ⟨by rfl, ?yw180⟩) rfl ?rw180; (case yw180 => intro w hSw; subst hSw; go_simp <;> with_reducible rfl); simp only [Act.put, List.setIfInBounds_toArray, List.set_cons_zero, List.set_cons_succ])
                | (refine wpAnyH_take (i := 0) (oi := { dst := _, op := _, type := _, pos := _, after := _, guard := _ }) (v := undef) rfl (by kernel_rfl) (by kernel_rfl) (by kernel_rfl) (fun _ _ _ h => h) (Or.inr ⟨by rfl, rfl⟩) rfl ?rw180; simp only [Act.put, List.setIfInBounds_toArray, List.set_cons_zero, List.set_cons_succ])
              first
                | (refine wpAnyH_take (i := 1) (oi := { dst := _, op := _, type := _, pos := _, after := _, guard := _ }) (v := ?vw181) rfl (by kernel_rfl) (by kernel_rfl) (by kernel_rfl) (fun _ _ _ h => h) (Or.inl ⟨by rfl, ?yw181⟩) rfl ?rw181; (case yw181 => intro w hSw; subst hSw; go_simp <;> with_reducible rfl); simp only [Act.put, List.setIfInBounds_toArray, List.set_cons_zero, List.set_cons_succ])
                | (refine wpAnyH_take (i := 1) (oi := { dst := _, op := _, type := _, pos := _, after := _, guard := _ }) (v := undef) rfl (by kernel_rfl) (by kernel_rfl) (by kernel_rfl) (fun _ _ _ h => h) (Or.inr ⟨by rfl, rfl⟩) rfl ?rw181; simp only [Act.put, List.setIfInBounds_toArray, List.set_cons_zero, List.set_cons_succ])
              first
                | (refine wpAnyH_take (i := 2) (oi := { dst := _, op := _, type := _, pos := _, after := _, guard := _ }) (v := ?vw182) rfl (by kernel_rfl) (by kernel_rfl) (by kernel_rfl) (fun _ _ _ h => h) (Or.inl ⟨by rfl, ?yw182⟩) rfl ?rw182; (case yw182 => intro w hSw; subst hSw; go_simp <;> with_reducible rfl); simp only [Act.put, List.setIfInBounds_toArray, List.set_cons_zero, List.set_cons_succ])
                | (refine wpAnyH_take (i := 2) (oi := { dst := _, op := _, type := _, pos := _, after := _, guard := _ }) (v := undef) rfl (by kernel_rfl) (by kernel_rfl) (by kernel_rfl) (fun _ _ _ h => h) (Or.inr ⟨by rfl, rfl⟩) rfl ?rw182; simp only [Act.put, List.setIfInBounds_toArray, List.set_cons_zero, List.set_cons_succ])
              first
                | (refine wpAnyH_take (i := 3) (oi := { dst := _, op := _, type := _, pos := _, after := _, guard := _ }) (v := ?vw183) rfl (by kernel_rfl) (by kernel_rfl) (by kernel_rfl) (fun _ _ _ h => h) (Or.inl ⟨by rfl, ?yw183⟩) rfl ?rw183; (case yw183 => intro w hSw; subst hSw; go_simp <;> with_reducible rfl); simp only [Act.put, List.setIfInBounds_toArray, List.set_cons_zero, List.set_cons_succ])
                | (refine wpAnyH_take (i := 3) (oi := { dst := _, op := _, type := _, pos := _, after := _, guard := _ }) (v := undef) rfl (by kernel_rfl) (by kernel_rfl) (by kernel_rfl) (fun _ _ _ h => h) (Or.inr ⟨by rfl, rfl⟩) rfl ?rw183; simp only [Act.put, List.setIfInBounds_toArray, List.set_cons_zero, List.set_cons_succ])
              first
                | (refine wpAnyH_take (i := 4) (oi := { dst := _, op := _, type := _, pos := _, after := _, guard := _ }) (v := ?vw184) rfl (by kernel_rfl) (by kernel_rfl) (by kernel_rfl) (fun _ _ _ h => h) (Or.inl ⟨by rfl, ?yw184⟩) rfl ?rw184; (case yw184 => intro w hSw; subst hSw; go_simp <;> with_reducible rfl); simp only [Act.put, List.setIfInBounds_toArray, List.set_cons_zero, List.set_cons_succ])
                | (refine wpAnyH_take (i := 4) (oi := { dst := _, op := _, type := _, pos := _, after := _, guard := _ }) (v := undef) rfl (by kernel_rfl) (by kernel_rfl) (by kernel_rfl) (fun _ _ _ h => h) (Or.inr ⟨by rfl, rfl⟩) rfl ?rw184; simp only [Act.put, List.setIfInBounds_toArray, List.set_cons_zero, List.set_cons_succ])
              first
                | (refine wpAnyH_take (i := 5) (oi := { dst := _, op := _, type := _, pos := _, after := _, guard := _ }) (v := ?vw185) rfl (by kernel_rfl) (by kernel_rfl) (by kernel_rfl) (fun _ _ _ h => h) (Or.inl ⟨by rfl, ?yw185⟩) rfl ?rw185; (case yw185 => intro w hSw; subst hSw; go_simp <;> with_reducible rfl); simp only [Act.put, List.setIfInBounds_toArray, List.set_cons_zero, List.set_cons_succ])
                | (refine wpAnyH_take (i := 5) (oi := { dst := _, op := _, type := _, pos := _, after := _, guard := _ }) (v := undef) rfl (by kernel_rfl) (by kernel_rfl) (by kernel_rfl) (fun _ _ _ h => h) (Or.inr ⟨by rfl, rfl⟩) rfl ?rw185; simp only [Act.put, List.setIfInBounds_toArray, List.set_cons_zero, List.set_cons_succ])
              first
                | (refine wpAnyH_take (i := 6) (oi := { dst := _, op := _, type := _, pos := _, after := _, guard := _ }) (v := ?vw186) rfl (by kernel_rfl) (by kernel_rfl) (by kernel_rfl) (fun _ _ _ h => h) (Or.inl ⟨by rfl, ?yw186⟩) rfl ?rw186; (case yw186 => intro w hSw; subst hSw; go_simp <;> with_reducible rfl); simp only [Act.put, List.setIfInBounds_toArray, List.set_cons_zero, List.set_cons_succ])
                | (refine wpAnyH_take (i := 6) (oi := { dst := _, op := _, type := _, pos := _, after := _, guard := _ }) (v := undef) rfl (by kernel_rfl) (by kernel_rfl) (by kernel_rfl) (fun _ _ _ h => h) (Or.inr ⟨by rfl, rfl⟩) rfl ?rw186; simp only [Act.put, List.setIfInBounds_toArray, List.set_cons_zero, List.set_cons_succ])
              first
                | (refine wpAnyH_take (i := 7) (oi := { dst := _, op := _, type := _, pos := _, after := _, guard := _ }) (v := ?vw187) rfl (by kernel_rfl) (by kernel_rfl) (by kernel_rfl) (fun _ _ _ h => h) (Or.inl ⟨by rfl, ?yw187⟩) rfl ?rw187; (case yw187 => intro w hSw; subst hSw; go_simp <;> with_reducible rfl); simp only [Act.put, List.setIfInBounds_toArray, List.set_cons_zero, List.set_cons_succ])
                | (refine wpAnyH_take (i := 7) (oi := { dst := _, op := _, type := _, pos := _, after := _, guard := _ }) (v := undef) rfl (by kernel_rfl) (by kernel_rfl) (by kernel_rfl) (fun _ _ _ h => h) (Or.inr ⟨by rfl, rfl⟩) rfl ?rw187; simp only [Act.put, List.setIfInBounds_toArray, List.set_cons_zero, List.set_cons_succ])
              first
                | (refine wpAnyH_take (i := 8) (oi := { dst := _, op := _, type := _, pos := _, after := _, guard := _ }) (v := ?vw188) rfl (by kernel_rfl) (by kernel_rfl) (by kernel_rfl) (fun _ _ _ h => h) (Or.inl ⟨by rfl, ?yw188⟩) rfl ?rw188; (case yw188 => intro w hSw; subst hSw; go_simp <;> with_reducible rfl); simp only [Act.put, List.setIfInBounds_toArray, List.set_cons_zero, List.set_cons_succ])
                | (refine wpAnyH_take (i := 8) (oi := { dst := _, op := _, type := _, pos := _, after := _, guard := _ }) (v := undef) rfl (by kernel_rfl) (by kernel_rfl) (by kernel_rfl) (fun _ _ _ h => h) (Or.inr ⟨by rfl, rfl⟩) rfl ?rw188; simp only [Act.put, List.setIfInBounds_toArray, List.set_cons_zero, List.set_cons_succ])
              first
                | (refine wpAnyH_take (i := 9) (oi := { dst := _, op := _, type := _, pos := _, after := _, guard := _ }) (v := ?vw189) rfl (by kernel_rfl) (by kernel_rfl) (by kernel_rfl) (fun _ _ _ h => h) (Or.inl ⟨by rfl, ?yw189⟩) rfl ?rw189; (case yw189 => intro w hSw; subst hSw; go_simp <;> with_reducible rfl); simp only [Act.put, List.setIfInBounds_toArray, List.set_cons_zero, List.set_cons_succ])
                | (refine wpAnyH_take (i := 9) (oi := { dst := _, op := _, type := _, pos := _, after := _, guard := _ }) (v := undef) rfl (by kernel_rfl) (by kernel_rfl) (by kernel_rfl) (fun _ _ _ h => h) (Or.inr ⟨by rfl, rfl⟩) rfl ?rw189; simp only [Act.put, List.setIfInBounds_toArray, List.set_cons_zero, List.set_cons_succ])
              first
                | (refine wpAnyH_take (i := 10) (oi := { dst := _, op := _, type := _, pos := _, after := _, guard := _ }) (v := ?vw1810) rfl (by kernel_rfl) (by kernel_rfl) (by kernel_rfl) (fun _ _ _ h => h) (Or.inl ⟨by rfl, ?yw1810⟩) rfl ?rw1810; (case yw1810 => intro w hSw; subst hSw; go_simp <;> with_reducible rfl); simp only [Act.put, List.setIfInBounds_toArray, List.set_cons_zero, List.set_cons_succ])
                | (refine wpAnyH_take (i := 10) (oi := { dst := _, op := _, type := _, pos := _, after := _, guard := _ }) (v := undef) rfl (by kernel_rfl) (by kernel_rfl) (by kernel_rfl) (fun _ _ _ h => h) (Or.inr ⟨by rfl, rfl⟩) rfl ?rw1810; simp only [Act.put, List.setIfInBounds_toArray, List.set_cons_zero, List.set_cons_succ])
              refine wpAnyH_done (by kernel_rfl) ?_ _
              go_wp2_with fail
              exact ⟨⟨k + 1, by go_num, by omega, Below.call hbr (Below.refl _ _).drew⟩, by simp [intOf]; omega⟩
            · as_aux_lemma =>
              have hlt' : ¬ (k : Int) < ((Lt.dueOf l).length : Int) := by omega
              replace hS := hS.keep hbr
              replace hS2 := hS2.keep hbr
              replace LL := LL.keep hbr LL.lt
              replace hbw := Below.call hbw hbr
              clear hbr hU hU2 hlt hk
              rename World => w7
              go_wp2_with fail
              go_loopw [19] (fun ii wr => ∃ k : Nat, ii = .int .i64 k ∧ k ≤ (Lt.skipOf l).length ∧ Below w7.heap.size w7 wr) (fun ii _ => (Lt.skipOf l).length - (intOf ii).toNat)
              case atStart => exact ⟨0, rfl, Nat.zero_le _, Below.refl _ _⟩
              case round =>
                obtain ⟨k, rfl, hk, hbr⟩ := hrel
                by_cases hlt : k < (Lt.skipOf l).length
                · as_aux_lemma =>
                  have hk128 : k < 128 := by have := Lt.sum_len l; omega
                  have hlt' : (k : Int) < ((Lt.skipOf l).length : Int) := by omega
                  have hUk := hS.keep hbr
                  have hUk2 := hS2.keep hbr
                  obtain ⟨ab, aoff, rfl, -, hca⟩ := Ints.at hUk (by omega)
                  obtain ⟨cb, coff, rfl, -, hcc⟩ := Ints.at hUk2 (by rw [List.length_map]; omega)
                  have hck := hca k hlt
                  have hcd := hcc k (by rw [List.length_map]; omega)
                  have hxx : ((Lt.skipOf l).map (· + d)).getD k 0 = (Lt.skipOf l).getD k 0 + d := by simp [hlt]
                  rw [hxx] at hcd
                  obtain ⟨x, hx⟩ : ∃ x, x = (Lt.skipOf l).getD k 0 := ⟨_, rfl⟩
                  rw [← hx] at hck hcd
                  have hwx : IntKind.i64.wrap (x + d) = x + d := by
                    have := HP.out.2 x (by rw [hx]; simp [hlt])
                    exact wrap_small _ (by omega) (by omega)
                  clear hca hcc hxx hx
                  go_wp2_with fail
                  refine wp_region_held_drew (S := fun w' => w' = wr.drew) (by kernel_rfl) rfl (fun _ => ?_)
                  first
                    | (refine wpAnyH_take (i := 0) (oi := { dst := _, op := _, type := _, pos := _, after := _, guard := _ }) (v := ?vw190) rfl (by kernel_rfl) (by kernel_rfl) (by kernel_rfl) (fun _ _ _ h => h) (Or.inl ⟨by rfl, ?yw190⟩) rfl ?rw190; (case yw190 => intro w hSw; subst hSw; go_simp <;> with_reducible rfl); simp only [Act.put, List.setIfInBounds_toArray, List.set_cons_zero, List.set_cons_succ])
                    | (refine wpAnyH_take (i := 0) (oi := { dst := _, op := _, type := _, pos := _, after := _, guard := _ }) (v := undef) rfl (by kernel_rfl) (by kernel_rfl) (by kernel_rfl) (fun _ _ _ h => h) (Or.inr ⟨by rfl, rfl⟩) rfl ?rw190; simp only [Act.put, List.setIfInBounds_toArray, List.set_cons_zero, List.set_cons_succ])
                  first
                    | (refine wpAnyH_take (i := 1) (oi := { dst := _, op := _, type := _, pos := _, after := _, guard := _ }) (v := ?vw191) rfl (by kernel_rfl) (by kernel_rfl) (by kernel_rfl) (fun _ _ _ h => h) (Or.inl ⟨by rfl, ?yw191⟩) rfl ?rw191; (case yw191 => intro w hSw; subst hSw; go_simp <;> with_reducible rfl); simp only [Act.put, List.setIfInBounds_toArray, List.set_cons_zero, List.set_cons_succ])
                    | (refine wpAnyH_take (i := 1) (oi := { dst := _, op := _, type := _, pos := _, after := _, guard := _ }) (v := undef) rfl (by kernel_rfl) (by kernel_rfl) (by kernel_rfl) (fun _ _ _ h => h) (Or.inr ⟨by rfl, rfl⟩) rfl ?rw191; simp only [Act.put, List.setIfInBounds_toArray, List.set_cons_zero, List.set_cons_succ])
                  first
                    | (refine wpAnyH_take (i := 2) (oi := { dst := _, op := _, type := _, pos := _, after := _, guard := _ }) (v := ?vw192) rfl (by kernel_rfl) (by kernel_rfl) (by kernel_rfl) (fun _ _ _ h => h) (Or.inl ⟨by rfl, ?yw192⟩) rfl ?rw192; (case yw192 => intro w hSw; subst hSw; go_simp <;> with_reducible rfl); simp only [Act.put, List.setIfInBounds_toArray, List.set_cons_zero, List.set_cons_succ])
                    | (refine wpAnyH_take (i := 2) (oi := { dst := _, op := _, type := _, pos := _, after := _, guard := _ }) (v := undef) rfl (by kernel_rfl) (by kernel_rfl) (by kernel_rfl) (fun _ _ _ h => h) (Or.inr ⟨by rfl, rfl⟩) rfl ?rw192; simp only [Act.put, List.setIfInBounds_toArray, List.set_cons_zero, List.set_cons_succ])
                  first
                    | (refine wpAnyH_take (i := 3) (oi := { dst := _, op := _, type := _, pos := _, after := _, guard := _ }) (v := ?vw193) rfl (by kernel_rfl) (by kernel_rfl) (by kernel_rfl) (fun _ _ _ h => h) (Or.inl ⟨by rfl, ?yw193⟩) rfl ?rw193; (case yw193 => intro w hSw; subst hSw; go_simp <;> with_reducible rfl); simp only [Act.put, List.setIfInBounds_toArray, List.set_cons_zero, List.set_cons_succ])
                    | (refine wpAnyH_take (i := 3) (oi := { dst := _, op := _, type := _, pos := _, after := _, guard := _ }) (v := undef) rfl (by kernel_rfl) (by kernel_rfl) (by kernel_rfl) (fun _ _ _ h => h) (Or.inr ⟨by rfl, rfl⟩) rfl ?rw193; simp only [Act.put, List.setIfInBounds_toArray, List.set_cons_zero, List.set_cons_succ])
                  first
                    | (refine wpAnyH_take (i := 4) (oi := { dst := _, op := _, type := _, pos := _, after := _, guard := _ }) (v := ?vw194) rfl (by kernel_rfl) (by kernel_rfl) (by kernel_rfl) (fun _ _ _ h => h) (Or.inl ⟨by rfl, ?yw194⟩) rfl ?rw194; (case yw194 => intro w hSw; subst hSw; go_simp <;> with_reducible rfl); simp only [Act.put, List.setIfInBounds_toArray, List.set_cons_zero, List.set_cons_succ])
                    | (refine wpAnyH_take (i := 4) (oi := { dst := _, op := _, type := _, pos := _, after := _, guard := _ }) (v := undef) rfl (by kernel_rfl) (by kernel_rfl) (by kernel_rfl) (fun _ _ _ h => h) (Or.inr ⟨by rfl, rfl⟩) rfl ?rw194; simp only [Act.put, List.setIfInBounds_toArray, List.set_cons_zero, List.set_cons_succ])
                  first
                    | (refine wpAnyH_take (i := 5) (oi := { dst := _, op := _, type := _, pos := _, after := _, guard := _ }) (v := ?vw195) rfl (by kernel_rfl) (by kernel_rfl) (by kernel_rfl) (fun _ _ _ h => h) (Or.inl ⟨by rfl, ?yw195⟩) rfl ?rw195; (case yw195 => intro w hSw; subst hSw; go_simp <;> with_reducible rfl); simp only [Act.put, List.setIfInBounds_toArray, List.set_cons_zero, List.set_cons_succ])
                    | (refine wpAnyH_take (i := 5) (oi := { dst := _, op := _, type := _, pos := _, after := _, guard := _ }) (v := undef) rfl (by kernel_rfl) (by kernel_rfl) (by kernel_rfl) (fun _ _ _ h => h) (Or.inr ⟨by rfl, rfl⟩) rfl ?rw195; simp only [Act.put, List.setIfInBounds_toArray, List.set_cons_zero, List.set_cons_succ])
                  first
                    | (refine wpAnyH_take (i := 6) (oi := { dst := _, op := _, type := _, pos := _, after := _, guard := _ }) (v := ?vw196) rfl (by kernel_rfl) (by kernel_rfl) (by kernel_rfl) (fun _ _ _ h => h) (Or.inl ⟨by rfl, ?yw196⟩) rfl ?rw196; (case yw196 => intro w hSw; subst hSw; go_simp <;> with_reducible rfl); simp only [Act.put, List.setIfInBounds_toArray, List.set_cons_zero, List.set_cons_succ])
                    | (refine wpAnyH_take (i := 6) (oi := { dst := _, op := _, type := _, pos := _, after := _, guard := _ }) (v := undef) rfl (by kernel_rfl) (by kernel_rfl) (by kernel_rfl) (fun _ _ _ h => h) (Or.inr ⟨by rfl, rfl⟩) rfl ?rw196; simp only [Act.put, List.setIfInBounds_toArray, List.set_cons_zero, List.set_cons_succ])
                  first
                    | (refine wpAnyH_take (i := 7) (oi := { dst := _, op := _, type := _, pos := _, after := _, guard := _ }) (v := ?vw197) rfl (by kernel_rfl) (by kernel_rfl) (by kernel_rfl) (fun _ _ _ h => h) (Or.inl ⟨by rfl, ?yw197⟩) rfl ?rw197; (case yw197 => intro w hSw; subst hSw; go_simp <;> with_reducible rfl); simp only [Act.put, List.setIfInBounds_toArray, List.set_cons_zero, List.set_cons_succ])
                    | (refine wpAnyH_take (i := 7) (oi := { dst := _, op := _, type := _, pos := _, after := _, guard := _ }) (v := undef) rfl (by kernel_rfl) (by kernel_rfl) (by kernel_rfl) (fun _ _ _ h => h) (Or.inr ⟨by rfl, rfl⟩) rfl ?rw197; simp only [Act.put, List.setIfInBounds_toArray, List.set_cons_zero, List.set_cons_succ])
                  first
                    | (refine wpAnyH_take (i := 8) (oi := { dst := _, op := _, type := _, pos := _, after := _, guard := _ }) (v := ?vw198) rfl (by kernel_rfl) (by kernel_rfl) (by kernel_rfl) (fun _ _ _ h => h) (Or.inl ⟨by rfl, ?yw198⟩) rfl ?rw198; (case yw198 => intro w hSw; subst hSw; go_simp <;> with_reducible rfl); simp only [Act.put, List.setIfInBounds_toArray, List.set_cons_zero, List.set_cons_succ])
                    | (refine wpAnyH_take (i := 8) (oi := { dst := _, op := _, type := _, pos := _, after := _, guard := _ }) (v := undef) rfl (by kernel_rfl) (by kernel_rfl) (by kernel_rfl) (fun _ _ _ h => h) (Or.inr ⟨by rfl, rfl⟩) rfl ?rw198; simp only [Act.put, List.setIfInBounds_toArray, List.set_cons_zero, List.set_cons_succ])
                  first
                    | (refine wpAnyH_take (i := 9) (oi := { dst := _, op := _, type := _, pos := _, after := _, guard := _ }) (v := ?vw199) rfl (by kernel_rfl) (by kernel_rfl) (by kernel_rfl) (fun _ _ _ h => h) (Or.inl ⟨by rfl, ?yw199⟩) rfl ?rw199; (case yw199 => intro w hSw; subst hSw; go_simp <;> with_reducible rfl); simp only [Act.put, List.setIfInBounds_toArray, List.set_cons_zero, List.set_cons_succ])
                    | (refine wpAnyH_take (i := 9) (oi := { dst := _, op := _, type := _, pos := _, after := _, guard := _ }) (v := undef) rfl (by kernel_rfl) (by kernel_rfl) (by kernel_rfl) (fun _ _ _ h => h) (Or.inr ⟨by rfl, rfl⟩) rfl ?rw199; simp only [Act.put, List.setIfInBounds_toArray, List.set_cons_zero, List.set_cons_succ])
                  first
                    | (refine wpAnyH_take (i := 10) (oi := { dst := _, op := _, type := _, pos := _, after := _, guard := _ }) (v := ?vw1910) rfl (by kernel_rfl) (by kernel_rfl) (by kernel_rfl) (fun _ _ _ h => h) (Or.inl ⟨by rfl, ?yw1910⟩) rfl ?rw1910; (case yw1910 => intro w hSw; subst hSw; go_simp <;> with_reducible rfl); simp only [Act.put, List.setIfInBounds_toArray, List.set_cons_zero, List.set_cons_succ])
                    | (refine wpAnyH_take (i := 10) (oi := { dst := _, op := _, type := _, pos := _, after := _, guard := _ }) (v := undef) rfl (by kernel_rfl) (by kernel_rfl) (by kernel_rfl) (fun _ _ _ h => h) (Or.inr ⟨by rfl, rfl⟩) rfl ?rw1910; simp only [Act.put, List.setIfInBounds_toArray, List.set_cons_zero, List.set_cons_succ])
                  refine wpAnyH_done (by kernel_rfl) ?_ _
                  go_wp2_with fail
                  exact ⟨⟨k + 1, by go_num, by omega, Below.call hbr (Below.refl _ _).drew⟩, by simp [intOf]; omega⟩
                · as_aux_lemma =>
                  have hlt2 : ¬ (k : Int) < ((Lt.skipOf l).length : Int) := by omega
                  replace LL := LL.keep hbr LL.lt
                  replace hbw := Below.call hbw hbr
                  clear hbr hS hS2 hlt hk
                  rename World => w8
                  obtain ⟨y0, y1, y2, y3, y4, y5⟩ := LL.facts
                  have z1 : w8.frozen? ⟨w.heap.size, 1, none⟩ = false := LL.froz 1
                  have N1 := LL.set1 (l.grace + g)
                  have z5 : (w8.setCell ⟨w.heap.size, 1, none⟩ (.int .i64 (l.grace + g))).frozen? ⟨w.heap.size, 5, none⟩ = false := N1.froz 5
                  have x5 := N1.facts.2.2.2.2.2
                  have N5 := N1.set5 (l.room + r)
                  have hbf : Below w.heap.size w ((w8.setCell ⟨w.heap.size, 1, none⟩ (.int .i64 (l.grace + g))).setCell ⟨w.heap.size, 5, none⟩ (.int .i64 (l.room + r))) :=
                    (hbw.setCell (p := ⟨w.heap.size, 1, none⟩) (Nat.le_refl _) _).setCell (p := ⟨w.heap.size, 5, none⟩) (Nat.le_refl _) _
                  obtain ⟨n0, n1, n2, n3, n4, n5⟩ := N5.facts
                  have hwg : IntKind.i64.wrap (l.grace + g) = l.grace + g := wrap_small _ (by omega) (by omega)
                  have hwr := HK9.out
                  go_wp2_with fail
                  clear y0 y1 y2 y3 y4 y5 n0 n1 n2 n3 n4 n5 z1 z5 x5 hwg hwr
                  refine (judge_yes (Lt.wide l g r) _ _ _ (HK.out.1.keep hbf) (HK.out.2.keep hbf) (Lt.wide_may l g r hm hg0 hr0 hr1)).mono ?_
                  rintro e w9 ⟨va, vn, rfl, hA, hN, hc9⟩
                  have hge : ((Lt.dueOf l).length : Int) ≤ ((Lt.dueOf (Lt.wide l g r)).length : Int) := by have := HJ.out.2; omega
                  obtain ⟨ao9, ac9, rfl, -, -, -⟩ := Ints.form hA
                  go_wp2_with fail
                  go_ret
                  exact ⟨rfl, Below.call hbf hc9⟩
end Go.Proofs.Ytaepkmjlkenenaa
