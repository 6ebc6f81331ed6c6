import Derived.Test.YtaepkmjlkenenaaL3
import Derived.Laws.EntriesVeiled
namespace Go.Proofs.Ytaepkmjlkenenaa
open Go.RowKit

set_option maxRecDepth 100000 in
set_option maxHeartbeats 1000000 in
theorem judge_2 (l : Lt.Lot) (vd vc : Value) (w : World) (hD : Ints w vd l.due) (hC : Ints w vc l.come) (hm : Lt.may l = true) (hp : l.pol = 2) :
    Calls Try.prog 11 #[lotV l vd vc] w fun e w' => ∃ u v, e = .returned (.tuple #[u, v, .int .i64 0]) ∧ Ints w' u (Lt.dueOf l) ∧ Ints w' v (Lt.skipOf l) ∧ Below w.heap.size w w' := by
  obtain ⟨h, hr⟩ := (Lt.may_iff l).1 hm
  have hM := may_any l vd vc _ ((hD.keep ((Below.refl _ _).alloc (Nat.le_refl _) (.cells #[.int .i64 l.pol, .int .i64 l.grace, .int .i64 l.now, vd, vc, .int .i64 l.room] 24)))) (hC.keep ((Below.refl _ _).alloc (Nat.le_refl _) _))
  rw [hm] at hM
  have hb0 : Below w.heap.size w (w.alloc (.cells #[.int .i64 l.pol, .int .i64 l.grace, .int .i64 l.now, vd, vc, .int .i64 l.room] 24)) := (Below.refl _ _).alloc (Nat.le_refl _) _
  obtain ⟨W, hW⟩ : ∃ W, W = w.alloc (.cells #[.int .i64 l.pol, .int .i64 l.grace, .int .i64 l.now, vd, vc, .int .i64 l.room] 24) := ⟨_, rfl⟩
  have c0 : W.cell? ⟨w.heap.size, 0, none⟩ = some (.int .i64 l.pol) := by rw [hW, World.cell?_alloc_mark]; rfl
  have c1 : W.cell? ⟨w.heap.size, 1, none⟩ = some (.int .i64 l.grace) := by rw [hW, World.cell?_alloc_mark]; rfl
  have c2 : W.cell? ⟨w.heap.size, 2, none⟩ = some (.int .i64 l.now) := by rw [hW, World.cell?_alloc_mark]; rfl
  have c3 : W.cell? ⟨w.heap.size, 3, none⟩ = some vd := by rw [hW, World.cell?_alloc_mark]; rfl
  have c4 : W.cell? ⟨w.heap.size, 4, none⟩ = some vc := by rw [hW, World.cell?_alloc_mark]; rfl
  have c5 : W.cell? ⟨w.heap.size, 5, none⟩ = some (.int .i64 l.room) := by rw [hW, World.cell?_alloc_mark]; rfl
  rw [← hW] at hb0
  have C := Lib.hid (And.intro c0 (And.intro c1 (And.intro c2 (And.intro c3 (And.intro c4 c5)))))
  clear c0 c1 c2 c3 c4 c5
  obtain ⟨ao, ca, rfl, -, -, -⟩ := hD.form
  obtain ⟨bo, cb, rfl, -, -, -⟩ := hC.form
  have HW := Lib.hid hW
  have q3 : (l.pol == 3) = false := by simp; omega
  have q1 : (l.pol == 1) = false := by simp; omega
  have HP := Lib.hid hp
  clear hp
  clear hW
  unfold lotV at *
  go_enter Try.func11, Try.ntmps11
  go_wp2_with fail
  refine hM.mono ?_
  rintro e w1 ⟨rfl, hb1⟩
  rw [← HW.out] at hb1
  have d3 := below_at hb1 C.out.2.2.2.1
  go_wp2_with fail
  refine (clone_any _ l.due _ (hD.keep (Below.call hb0 hb1)) (by omega)).mono ?_
  rintro e w2 ⟨vo, rfl, ho, hb2⟩
  have hb2 := Below.call hb1 hb2
  have d4 := below_at hb2 C.out.2.2.2.2.1
  go_wp2_with fail
  refine (clone_any _ l.come _ (hC.keep (Below.call hb0 hb2)) (by omega)).mono ?_
  rintro e w3 ⟨vk, rfl, hk, hb3⟩
  have hO : Ints w3 vo l.due := ho.ints.keep hb3
  have hC3 : Ints w3 vk l.come := hk.ints
  have hb3 := Below.call hb2 hb3
  have d0 := below_at hb3 C.out.1
  clear hM ho hk hb1 hb2 d3 d4
  obtain ⟨oo, co, rfl, o1, o2, o3⟩ := hO.form
  obtain ⟨ko, ck, rfl, k1, k2, k3⟩ := hC3.form
  have hb4 : Below w3.heap.size w3 (w3.alloc (.cells #[.func (.func 31) #[] #[.pointer (some ⟨w.heap.size, 0, none⟩)]] 73)) := (Below.refl _ _).alloc (Nat.le_refl _) _
  have d0' := below_at hb4 d0
  have d5 := below_at hb4 (below_at hb3 C.out.2.2.2.2.2)
  have eO : Ints _ _ l.due := hO.keep hb4
  have eC : Ints _ _ l.come := hC3.keep hb4
  have hbs := Below.call (Below.call hb0 hb3) hb4
  clear hb2 d0 hO hC3
  by_cases hov : 0 < (l.due.length : Int) + (l.come.length : Int) - l.room
  · obtain ⟨m, hm2⟩ := Int.eq_ofNat_of_zero_le (show 0 ≤ (l.due.length : Int) + (l.come.length : Int) - l.room by omega)
    obtain ⟨V1, hV1, hV1'⟩ := cut_h (P := Try.prog) Try.underlying22 Try.size2 ko l.come.length ck m (by omega)
    obtain ⟨V2, hV2, hV2'⟩ := cut_l (P := Try.prog) Try.underlying22 Try.size2 ko l.come.length ck m (by omega)
    have eS : Ints _ _ [] := Sli.nil (w3.alloc (Obj.cells #[Value.func (.func 31) #[] #[.pointer (some ⟨w.heap.size, 0, none⟩)]] 73))
    have hm0 : (0 : Int) < (m : Int) := by omega
    have FACT1 : Lt.dueOf l = l.due ++ l.come.drop m := by
      rw [Lt.due_n3 l (by rw [HP.out]; decide), Lt.cut_2 l (by rw [HP.out]; decide) (by rw [HP.out]; decide), hm2]; rfl
    have FACT2 : Lt.skipOf l = l.come.take m := by
      rw [Lt.skip_n3 l (by rw [HP.out]; decide), Lt.cut_2 l (by rw [HP.out]; decide) (by rw [HP.out]; decide), hm2]; rfl
    have F1 := Lib.hid FACT1
    have F2 := Lib.hid FACT2
    clear FACT1 FACT2
    go_wp2_with fail
    generalize (w3.alloc (Obj.cells #[Value.func (.func 31) #[] #[.pointer (some ⟨w.heap.size, 0, none⟩)]] 73)) = ws at *
    have eT : Ints ws V1 ((l.come).take m) := Ints.take (hV1' _ _ eC (by simp; omega))
    have eU : Ints ws V2 ((l.come).drop m) := Ints.drop (hV2' _ _ eC (by simp))
    obtain ⟨T, hT⟩ : ∃ T, T = (l.come).take m := ⟨_, rfl⟩
    obtain ⟨U, hU⟩ : ∃ U, U = (l.come).drop m := ⟨_, rfl⟩
    have hTl : T.length ≤ 1000 := by rw [hT]; simp; omega
    have hUl : U.length ≤ 1000 := by rw [hU]; simp; omega
    rw [← hT] at eT
    rw [← hU] at eU
    have HT := Lib.hid hT
    have HU := Lib.hid hU
    clear hT hU
    obtain ⟨to, tc, rfl, -, -, -⟩ := eT.form
    obtain ⟨uo, uc, rfl, -, -, -⟩ := eU.form
    refine wp_region_held_drew (S := fun w' => Below ws.heap.size ws w') (by kernel_rfl) (Below.refl _ _).drew (fun h0 => ?_)
    refine wpAnyH_take (i := 0) (oi := { dst := _, op := _, type := _, pos := _, after := _, guard := _ }) (v := ?vqa0) rfl (by kernel_rfl) (by kernel_rfl) (by kernel_rfl) (fun _ _ _ h => h) (Or.inl ⟨by rfl, ?yqa0⟩) (by assumption) ?rqa0; (case yqa0 => intro w hSw; go_simp <;> with_reducible rfl); simp only [Act.put, List.setIfInBounds_toArray, List.set_cons_zero, List.set_cons_succ]
    refine wpAnyH_take (i := 1) (oi := { dst := _, op := _, type := _, pos := _, after := _, guard := _ }) (v := ?vqa1) rfl (by kernel_rfl) (by kernel_rfl) (by kernel_rfl) (fun _ _ _ h => h) (Or.inl ⟨by rfl, ?yqa1⟩) (by assumption) ?rqa1; (case yqa1 => intro w hSw; go_simp <;> with_reducible rfl); simp only [Act.put, List.setIfInBounds_toArray, List.set_cons_zero, List.set_cons_succ]
    refine wpAnyH_take (i := 2) (oi := { dst := _, op := _, type := _, pos := _, after := _, guard := _ }) (v := ?vqa2) rfl (by kernel_rfl) (by kernel_rfl) (by kernel_rfl) (fun _ _ _ h => h) (Or.inl ⟨by rfl, ?yqa2⟩) (by assumption) ?rqa2; (case yqa2 => intro w hSw; go_simp <;> with_reducible rfl); simp only [Act.put, List.setIfInBounds_toArray, List.set_cons_zero, List.set_cons_succ]
    refine wpAnyH_take (i := 3) (oi := { dst := _, op := _, type := _, pos := _, after := _, guard := _ }) (v := ?vqa3) rfl (by kernel_rfl) (by kernel_rfl) (by kernel_rfl) (fun _ _ _ h => h) (Or.inl ⟨by rfl, ?yqa3⟩) (by assumption) ?rqa3; (case yqa3 => intro w hSw; go_simp <;> with_reducible rfl); simp only [Act.put, List.setIfInBounds_toArray, List.set_cons_zero, List.set_cons_succ]
    refine wpAnyH_take (i := 6) (oi := { dst := _, op := _, type := _, pos := _, after := _, guard := _ }) (v := ?vqa6) rfl (by kernel_rfl) (by kernel_rfl) (by kernel_rfl) (fun _ _ _ h => h) (Or.inl ⟨by rfl, ?yqa6⟩) (by assumption) ?rqa6; (case yqa6 => intro w hSw; go_simp <;> with_reducible rfl); simp only [Act.put, List.setIfInBounds_toArray, List.set_cons_zero, List.set_cons_succ]
    refine wpAnyH_take (i := 7) (oi := { dst := _, op := _, type := _, pos := _, after := _, guard := _ }) (v := ?vqa7) rfl (by kernel_rfl) (by kernel_rfl) (by kernel_rfl) (fun _ _ _ h => h) (Or.inl ⟨by rfl, ?yqa7⟩) (by assumption) ?rqa7; (case yqa7 => intro w hSw; go_simp <;> with_reducible rfl); simp only [Act.put, List.setIfInBounds_toArray, List.set_cons_zero, List.set_cons_succ]
    refine wpAnyH_take (i := 8) (oi := { dst := _, op := _, type := _, pos := _, after := _, guard := _ }) (v := ?vqa8) rfl (by kernel_rfl) (by kernel_rfl) (by kernel_rfl) (fun _ _ _ h => h) (Or.inl ⟨by rfl, ?yqa8⟩) (by assumption) ?rqa8; (case yqa8 => intro w hSw; go_simp <;> with_reducible rfl); simp only [Act.put, List.setIfInBounds_toArray, List.set_cons_zero, List.set_cons_succ]
    refine wpAnyH_ready (rs := [4]) (by kernel_rfl) (by simp) ?_
    refine AllReadyH.cons (o := { dst := _, op := _, type := _, pos := _, after := _, guard := _ }) rfl (fun K hK => ?_) AllReadyH.nil
    go_simp
    refine hK.out _ _ (Below.al (Below.refl _ ws) _).drew (fun j1 => ?_)
    clear hK K
    refine wpAnyH_ready (rs := [5]) (by kernel_rfl) (by simp) ?_
    refine AllReadyH.cons (o := { dst := _, op := _, type := _, pos := _, after := _, guard := _ }) rfl (fun K hK => ?_) AllReadyH.nil
    go_simp
    refine (concat_any _ _ [[], T] _ (two_parts eS eT).1.drew (two_parts eS eT).2 (by simp; omega)).mono ?_
    rintro e x1 ⟨y1, rfl, ho1, hc1⟩
    have j2 := Below.call j1 hc1
    refine hK.out _ _ j2 (fun _ => ?_)
    clear hK K
    refine wpAnyH_take (i := 9) (oi := { dst := _, op := _, type := _, pos := _, after := _, guard := _ }) (v := ?vqa9) rfl (by kernel_rfl) (by kernel_rfl) (by kernel_rfl) (fun _ _ _ h => h) (Or.inl ⟨by rfl, ?yqa9⟩) (by assumption) ?rqa9; (case yqa9 => intro w hSw; go_simp <;> with_reducible rfl); simp only [Act.put, List.setIfInBounds_toArray, List.set_cons_zero, List.set_cons_succ]
    refine wpAnyH_take (i := 10) (oi := { dst := _, op := _, type := _, pos := _, after := _, guard := _ }) (v := ?vqa10) rfl (by kernel_rfl) (by kernel_rfl) (by kernel_rfl) (fun _ _ _ h => h) (Or.inl ⟨by rfl, ?yqa10⟩) (by assumption) ?rqa10; (case yqa10 => intro w hSw; go_simp <;> with_reducible rfl); simp only [Act.put, List.setIfInBounds_toArray, List.set_cons_zero, List.set_cons_succ]
    refine wpAnyH_done (by kernel_rfl) ?_ _
    go_wp2_with fail
    have eO2 := eO.keep j2
    have eU2 := eU.keep j2
    refine (concat_any _ _ [l.due, U] _ (two_parts eO2 eU2).1 (two_parts eO2 eU2).2 (by simp; omega)).mono ?_
    rintro e x2 ⟨y2, rfl, ho2, hc2⟩
    have j4 := Below.call (w := x1) (Below.al (Below.refl _ x1) _) hc2
    clear hV1 hV2 hV1' hV2'
    go_wp2_with fail
    go_ret3
    refine ⟨_, _, rfl, ?_, ?_, Below.call (Below.call hbs j2) j4⟩
    · have := ho2.ints
      rw [HU.out] at this
      simpa [F1.out, F2.out] using this
    · have : Ints x2 y1 _ := ho1.ints.keep j4
      rw [HT.out] at this
      simpa [F1.out, F2.out] using this
  · have FACT1 : Lt.dueOf l = l.due ++ l.come := by
      rw [Lt.due_n3 l (by rw [HP.out]; decide), Lt.cut_2 l (by rw [HP.out]; decide) (by rw [HP.out]; decide), show ((l.due.length : Int) + (l.come.length : Int) - l.room).toNat = 0 by omega]; rfl
    have FACT2 : Lt.skipOf l = [] := by
      rw [Lt.skip_n3 l (by rw [HP.out]; decide), Lt.cut_2 l (by rw [HP.out]; decide) (by rw [HP.out]; decide), show ((l.due.length : Int) + (l.come.length : Int) - l.room).toNat = 0 by omega]; rfl
    have eS : Ints _ _ [] := Sli.nil (w3.alloc (Obj.cells #[Value.func (.func 31) #[] #[.pointer (some ⟨w.heap.size, 0, none⟩)]] 73))
    have F1 := Lib.hid FACT1
    have F2 := Lib.hid FACT2
    clear FACT1 FACT2
    have HS : RowKit.Hid (w3.heap.size + 1 = (w3.alloc (Obj.cells #[Value.func (.func 31) #[] #[.pointer (some ⟨w.heap.size, 0, none⟩)]] 73)).heap.size) := by
      show _ = _
      simp
    go_wp2_with fail
    generalize (w3.alloc (Obj.cells #[Value.func (.func 31) #[] #[.pointer (some ⟨w.heap.size, 0, none⟩)]] 73)) = ws at *
    try rw [HS.out]
    refine (concat_any _ _ [l.due, l.come] _ (two_parts eO eC).1 (two_parts eO eC).2 (by simp; omega)).mono ?_
    rintro e x1 ⟨y1, rfl, ho1, hc1⟩
    have j2 := Below.call (w := ws) (Below.al (Below.refl _ ws) _) hc1
    go_wp2_with fail
    go_ret3
    refine ⟨_, _, rfl, ?_, ?_, Below.call hbs j2⟩
    · have := ho1.ints
      simpa [F1.out, F2.out] using this
    · rw [F2.out]; exact eS.keep j2

set_option maxRecDepth 100000 in
set_option maxHeartbeats 1000000 in
theorem judge_1 (l : Lt.Lot) (vd vc : Value) (w : World) (hD : Ints w vd l.due) (hC : Ints w vc l.come) (hm : Lt.may l = true) (hp : l.pol = 1) :
    Calls Try.prog 11 #[lotV l vd vc] w fun e w' => ∃ u v, e = .returned (.tuple #[u, v, .int .i64 0]) ∧ Ints w' u (Lt.dueOf l) ∧ Ints w' v (Lt.skipOf l) ∧ Below w.heap.size w w' := by
  obtain ⟨h, hr⟩ := (Lt.may_iff l).1 hm
  have hM := may_any l vd vc _ ((hD.keep ((Below.refl _ _).alloc (Nat.le_refl _) (.cells #[.int .i64 l.pol, .int .i64 l.grace, .int .i64 l.now, vd, vc, .int .i64 l.room] 24)))) (hC.keep ((Below.refl _ _).alloc (Nat.le_refl _) _))
  rw [hm] at hM
  have hb0 : Below w.heap.size w (w.alloc (.cells #[.int .i64 l.pol, .int .i64 l.grace, .int .i64 l.now, vd, vc, .int .i64 l.room] 24)) := (Below.refl _ _).alloc (Nat.le_refl _) _
  obtain ⟨W, hW⟩ : ∃ W, W = w.alloc (.cells #[.int .i64 l.pol, .int .i64 l.grace, .int .i64 l.now, vd, vc, .int .i64 l.room] 24) := ⟨_, rfl⟩
  have c0 : W.cell? ⟨w.heap.size, 0, none⟩ = some (.int .i64 l.pol) := by rw [hW, World.cell?_alloc_mark]; rfl
  have c1 : W.cell? ⟨w.heap.size, 1, none⟩ = some (.int .i64 l.grace) := by rw [hW, World.cell?_alloc_mark]; rfl
  have c2 : W.cell? ⟨w.heap.size, 2, none⟩ = some (.int .i64 l.now) := by rw [hW, World.cell?_alloc_mark]; rfl
  have c3 : W.cell? ⟨w.heap.size, 3, none⟩ = some vd := by rw [hW, World.cell?_alloc_mark]; rfl
  have c4 : W.cell? ⟨w.heap.size, 4, none⟩ = some vc := by rw [hW, World.cell?_alloc_mark]; rfl
  have c5 : W.cell? ⟨w.heap.size, 5, none⟩ = some (.int .i64 l.room) := by rw [hW, World.cell?_alloc_mark]; rfl
  rw [← hW] at hb0
  have C := Lib.hid (And.intro c0 (And.intro c1 (And.intro c2 (And.intro c3 (And.intro c4 c5)))))
  clear c0 c1 c2 c3 c4 c5
  obtain ⟨ao, ca, rfl, -, -, -⟩ := hD.form
  obtain ⟨bo, cb, rfl, -, -, -⟩ := hC.form
  have HW := Lib.hid hW
  have q3 : (l.pol == 3) = false := by simp; omega
  have q1 : (l.pol == 1) = true := by simp; omega
  have HP := Lib.hid hp
  clear hp
  clear hW
  unfold lotV at *
  go_enter Try.func11, Try.ntmps11
  go_wp2_with fail
  refine hM.mono ?_
  rintro e w1 ⟨rfl, hb1⟩
  rw [← HW.out] at hb1
  have d3 := below_at hb1 C.out.2.2.2.1
  go_wp2_with fail
  refine (clone_any _ l.due _ (hD.keep (Below.call hb0 hb1)) (by omega)).mono ?_
  rintro e w2 ⟨vo, rfl, ho, hb2⟩
  have hb2 := Below.call hb1 hb2
  have d4 := below_at hb2 C.out.2.2.2.2.1
  go_wp2_with fail
  refine (clone_any _ l.come _ (hC.keep (Below.call hb0 hb2)) (by omega)).mono ?_
  rintro e w3 ⟨vk, rfl, hk, hb3⟩
  have hO : Ints w3 vo l.due := ho.ints.keep hb3
  have hC3 : Ints w3 vk l.come := hk.ints
  have hb3 := Below.call hb2 hb3
  have d0 := below_at hb3 C.out.1
  clear hM ho hk hb1 hb2 d3 d4
  obtain ⟨oo, co, rfl, o1, o2, o3⟩ := hO.form
  obtain ⟨ko, ck, rfl, k1, k2, k3⟩ := hC3.form
  have hb4 : Below w3.heap.size w3 (w3.alloc (.cells #[.func (.func 31) #[] #[.pointer (some ⟨w.heap.size, 0, none⟩)]] 73)) := (Below.refl _ _).alloc (Nat.le_refl _) _
  have d0' := below_at hb4 d0
  have d5 := below_at hb4 (below_at hb3 C.out.2.2.2.2.2)
  have eO : Ints _ _ l.due := hO.keep hb4
  have eC : Ints _ _ l.come := hC3.keep hb4
  have hbs := Below.call (Below.call hb0 hb3) hb4
  clear hb2 d0 hO hC3
  have d1 := below_at hb4 (below_at hb3 C.out.2.1)
  have d2 := below_at hb4 (below_at hb3 C.out.2.2.1)
  have dc : (w3.alloc (Obj.cells #[Value.func (.func 31) #[] #[.pointer (some ⟨w.heap.size, 0, none⟩)]] 73)).cell? ⟨w3.heap.size, 0, none⟩ = some (.func (.func 31) #[] #[.pointer (some ⟨w.heap.size, 0, none⟩)]) := by rw [World.cell?_alloc_mark]; rfl
  have hri := (Lt.rises_iff l.now _ _).1 hr
  have hIX := index_any l _ l.come w.heap.size w3.heap.size _ eC d1 d2 dc (fun t ht => by have := hri.1 t (by simp [ht]); omega) h.2.2.2.2.1 (by omega)
  clear d1 d2 dc hri
  have hol := Lt.ontime_le l l.come
  obtain ⟨n, hn⟩ : ∃ n, n = Lt.ontime l l.come := ⟨_, rfl⟩
  have hix : (idx l l.come = (n : Int) ∧ n < l.come.length) ∨ (idx l l.come = -1 ∧ n = l.come.length) := by
    unfold idx
    rw [← hn]
    rw [← hn] at hol
    split
    · rename_i hlt; exact .inl ⟨rfl, hlt⟩
    · right; exact ⟨rfl, by omega⟩
  rw [← hn] at hol
  have HN := Lib.hid hn
  clear hn
  obtain ⟨V1, hV1, hV1'⟩ := cut_h (P := Try.prog) Try.underlying22 Try.size2 ko l.come.length ck n (by omega)
  obtain ⟨V2, hV2, hV2'⟩ := cut_l (P := Try.prog) Try.underlying22 Try.size2 ko l.come.length ck n (by omega)
  have eS0 := Sli.drew (Ints.take (hV1' _ _ eC (by simp; omega)))
  have eC0 := Sli.drew (Ints.drop (hV2' _ _ eC (by simp)))
  have eO := Sli.drew eO
  clear eC hV1' hV2'
  obtain ⟨T1, hT1⟩ : ∃ T1, T1 = l.come.take n := ⟨_, rfl⟩
  obtain ⟨U1, hU1⟩ : ∃ U1, U1 = l.come.drop n := ⟨_, rfl⟩
  have hUl1 : U1.length + n ≤ l.come.length := by rw [hU1]; simp; omega
  have hUl2 : l.come.length ≤ U1.length + n := by rw [hU1]; simp; omega
  have hTl1 : T1.length ≤ 1000 := by rw [hT1]; simp; omega
  rw [← hT1] at eS0
  rw [← hU1] at eC0
  have eS : Ints _ _ T1 := eS0
  have eC : Ints _ _ U1 := eC0
  clear eS0 eC0
  obtain ⟨so, sc, rfl, -, -, -⟩ := eS.form
  obtain ⟨ko2, ck2, rfl, k4, k5, k6⟩ := eC.form
  have HT1 := Lib.hid (And.intro hT1 hU1)
  clear hT1 hU1
  have HE := Lib.hid (And.intro eS (And.intro eC eO))
  rcases hix with ⟨hix, hnl⟩ | ⟨hix, hnl⟩
  · rw [hix] at hIX
    have hn0 : ¬ ((n : Int) < 0) := by omega
    clear hix
    have hbsd : Below w.heap.size w ((w3.alloc (Obj.cells #[Value.func (.func 31) #[] #[.pointer (some ⟨w.heap.size, 0, none⟩)]] 73)).drew) := Below.call hbs (Below.refl _ _).drew
    have hbs0 := hbs
    clear eS eC eO hbs
    by_cases hov : 0 < (l.due.length : Int) + (U1.length : Int) - l.room
    · obtain ⟨m, hm2⟩ := Int.eq_ofNat_of_zero_le (show 0 ≤ (l.due.length : Int) + (U1.length : Int) - l.room by omega)
      have hm0 : (0 : Int) < (m : Int) := by omega
      have hmx : Lt.cutN l = n + m := by
        rw [Lt.cut_1 l HP.out, ← HN.out]; omega
      have FACT1 : Lt.dueOf l = l.due ++ U1.drop m := by
        rw [Lt.due_n3 l (by rw [HP.out]; decide), hmx, HT1.out.2, List.drop_drop]
      have FACT2 : Lt.skipOf l = T1 ++ U1.take m := by
        rw [Lt.skip_n3 l (by rw [HP.out]; decide), hmx, HT1.out.1, HT1.out.2, List.take_add]
      have F1 := Lib.hid FACT1
      have F2 := Lib.hid FACT2
      clear FACT1 FACT2 hmx
      obtain ⟨V3, hV3, hV3'⟩ := cut_h (P := Try.prog) Try.underlying22 Try.size2 ko2 U1.length ck2 m (by omega)
      obtain ⟨V4, hV4, hV4'⟩ := cut_l (P := Try.prog) Try.underlying22 Try.size2 ko2 U1.length ck2 m (by omega)
      go_wp2_with (go_at_call 32; refine hIX.mono ?_; rintro e wx ⟨rfl, rfl⟩)
      go_region
      go_wp2_with fail
      obtain ⟨eS, eC, eO⟩ := HE.out
      clear HE
      have hbs := hbsd
      clear hbsd
      generalize ((w3.alloc (Obj.cells #[Value.func (.func 31) #[] #[.pointer (some ⟨w.heap.size, 0, none⟩)]] 73)).drew) = ws at *
      have eT : Ints ws V3 ((U1).take m) := Ints.take (hV3' _ _ eC (by simp; omega))
      have eU : Ints ws V4 ((U1).drop m) := Ints.drop (hV4' _ _ eC (by simp))
      obtain ⟨T, hT⟩ : ∃ T, T = (U1).take m := ⟨_, rfl⟩
      obtain ⟨U, hU⟩ : ∃ U, U = (U1).drop m := ⟨_, rfl⟩
      have hTl : T.length ≤ 1000 := by rw [hT]; simp; omega
      have hUl : U.length ≤ 1000 := by rw [hU]; simp; omega
      rw [← hT] at eT
      rw [← hU] at eU
      have HT := Lib.hid hT
      have HU := Lib.hid hU
      clear hT hU
      obtain ⟨to, tc, rfl, -, -, -⟩ := eT.form
      obtain ⟨uo, uc, rfl, -, -, -⟩ := eU.form
      refine wp_region_held_drew (S := fun w' => Below ws.heap.size ws w') (by kernel_rfl) (Below.refl _ _).drew (fun h0 => ?_)
      refine wpAnyH_take (i := 0) (oi := { dst := _, op := _, type := _, pos := _, after := _, guard := _ }) (v := ?vqb0) rfl (by kernel_rfl) (by kernel_rfl) (by kernel_rfl) (fun _ _ _ h => h) (Or.inl ⟨by rfl, ?yqb0⟩) (by assumption) ?rqb0; (case yqb0 => intro w hSw; go_simp <;> with_reducible rfl); simp only [Act.put, List.setIfInBounds_toArray, List.set_cons_zero, List.set_cons_succ]
      refine wpAnyH_take (i := 1) (oi := { dst := _, op := _, type := _, pos := _, after := _, guard := _ }) (v := ?vqb1) rfl (by kernel_rfl) (by kernel_rfl) (by kernel_rfl) (fun _ _ _ h => h) (Or.inl ⟨by rfl, ?yqb1⟩) (by assumption) ?rqb1; (case yqb1 => intro w hSw; go_simp <;> with_reducible rfl); simp only [Act.put, List.setIfInBounds_toArray, List.set_cons_zero, List.set_cons_succ]
      refine wpAnyH_take (i := 2) (oi := { dst := _, op := _, type := _, pos := _, after := _, guard := _ }) (v := ?vqb2) rfl (by kernel_rfl) (by kernel_rfl) (by kernel_rfl) (fun _ _ _ h => h) (Or.inl ⟨by rfl, ?yqb2⟩) (by assumption) ?rqb2; (case yqb2 => intro w hSw; go_simp <;> with_reducible rfl); simp only [Act.put, List.setIfInBounds_toArray, List.set_cons_zero, List.set_cons_succ]
      refine wpAnyH_take (i := 3) (oi := { dst := _, op := _, type := _, pos := _, after := _, guard := _ }) (v := ?vqb3) rfl (by kernel_rfl) (by kernel_rfl) (by kernel_rfl) (fun _ _ _ h => h) (Or.inl ⟨by rfl, ?yqb3⟩) (by assumption) ?rqb3; (case yqb3 => intro w hSw; go_simp <;> with_reducible rfl); simp only [Act.put, List.setIfInBounds_toArray, List.set_cons_zero, List.set_cons_succ]
      refine wpAnyH_take (i := 6) (oi := { dst := _, op := _, type := _, pos := _, after := _, guard := _ }) (v := ?vqb6) rfl (by kernel_rfl) (by kernel_rfl) (by kernel_rfl) (fun _ _ _ h => h) (Or.inl ⟨by rfl, ?yqb6⟩) (by assumption) ?rqb6; (case yqb6 => intro w hSw; go_simp <;> with_reducible rfl); simp only [Act.put, List.setIfInBounds_toArray, List.set_cons_zero, List.set_cons_succ]
      refine wpAnyH_take (i := 7) (oi := { dst := _, op := _, type := _, pos := _, after := _, guard := _ }) (v := ?vqb7) rfl (by kernel_rfl) (by kernel_rfl) (by kernel_rfl) (fun _ _ _ h => h) (Or.inl ⟨by rfl, ?yqb7⟩) (by assumption) ?rqb7; (case yqb7 => intro w hSw; go_simp <;> with_reducible rfl); simp only [Act.put, List.setIfInBounds_toArray, List.set_cons_zero, List.set_cons_succ]
      refine wpAnyH_take (i := 8) (oi := { dst := _, op := _, type := _, pos := _, after := _, guard := _ }) (v := ?vqb8) rfl (by kernel_rfl) (by kernel_rfl) (by kernel_rfl) (fun _ _ _ h => h) (Or.inl ⟨by rfl, ?yqb8⟩) (by assumption) ?rqb8; (case yqb8 => intro w hSw; go_simp <;> with_reducible rfl); simp only [Act.put, List.setIfInBounds_toArray, List.set_cons_zero, List.set_cons_succ]
      refine wpAnyH_ready (rs := [4]) (by kernel_rfl) (by simp) ?_
      refine AllReadyH.cons (o := { dst := _, op := _, type := _, pos := _, after := _, guard := _ }) rfl (fun K hK => ?_) AllReadyH.nil
      go_simp
      refine hK.out _ _ (Below.al (Below.refl _ ws) _).drew (fun j1 => ?_)
      clear hK K
      refine wpAnyH_ready (rs := [5]) (by kernel_rfl) (by simp) ?_
      refine AllReadyH.cons (o := { dst := _, op := _, type := _, pos := _, after := _, guard := _ }) rfl (fun K hK => ?_) AllReadyH.nil
      go_simp
      refine (concat_any _ _ [T1, T] _ (two_parts eS eT).1.drew (two_parts eS eT).2 (by simp; omega)).mono ?_
      rintro e x1 ⟨y1, rfl, ho1, hc1⟩
      have j2 := Below.call j1 hc1
      refine hK.out _ _ j2 (fun _ => ?_)
      clear hK K
      refine wpAnyH_take (i := 9) (oi := { dst := _, op := _, type := _, pos := _, after := _, guard := _ }) (v := ?vqb9) rfl (by kernel_rfl) (by kernel_rfl) (by kernel_rfl) (fun _ _ _ h => h) (Or.inl ⟨by rfl, ?yqb9⟩) (by assumption) ?rqb9; (case yqb9 => intro w hSw; go_simp <;> with_reducible rfl); simp only [Act.put, List.setIfInBounds_toArray, List.set_cons_zero, List.set_cons_succ]
      refine wpAnyH_take (i := 10) (oi := { dst := _, op := _, type := _, pos := _, after := _, guard := _ }) (v := ?vqb10) rfl (by kernel_rfl) (by kernel_rfl) (by kernel_rfl) (fun _ _ _ h => h) (Or.inl ⟨by rfl, ?yqb10⟩) (by assumption) ?rqb10; (case yqb10 => intro w hSw; go_simp <;> with_reducible rfl); simp only [Act.put, List.setIfInBounds_toArray, List.set_cons_zero, List.set_cons_succ]
      refine wpAnyH_done (by kernel_rfl) ?_ _
      go_wp2_with fail
      have eO2 := eO.keep j2
      have eU2 := eU.keep j2
      refine (concat_any _ _ [l.due, U] _ (two_parts eO2 eU2).1 (two_parts eO2 eU2).2 (by simp; omega)).mono ?_
      rintro e x2 ⟨y2, rfl, ho2, hc2⟩
      have j4 := Below.call (w := x1) (Below.al (Below.refl _ x1) _) hc2
      clear hV3 hV4 hV3' hV4'
      go_wp2_with fail
      go_ret3
      refine ⟨_, _, rfl, ?_, ?_, Below.call (Below.call hbs j2) j4⟩
      · have := ho2.ints
        rw [HU.out] at this
        simpa [F1.out, F2.out] using this
      · have : Ints x2 y1 _ := ho1.ints.keep j4
        rw [HT.out] at this
        simpa [F1.out, F2.out] using this
    · have hmx : Lt.cutN l = n := by
        rw [Lt.cut_1 l HP.out, ← HN.out]; omega
      have FACT1 : Lt.dueOf l = l.due ++ U1 := by
        rw [Lt.due_n3 l (by rw [HP.out]; decide), hmx, HT1.out.2]
      have FACT2 : Lt.skipOf l = T1 := by
        rw [Lt.skip_n3 l (by rw [HP.out]; decide), hmx, HT1.out.1]
      have F1 := Lib.hid FACT1
      have F2 := Lib.hid FACT2
      clear FACT1 FACT2 hmx
      have HS : RowKit.Hid (w3.heap.size + 1 = ((w3.alloc (Obj.cells #[Value.func (.func 31) #[] #[.pointer (some ⟨w.heap.size, 0, none⟩)]] 73))).heap.size) := by
        show _ = _
        simp
      have hbs : Below w.heap.size w (w3.alloc (Obj.cells #[Value.func (.func 31) #[] #[.pointer (some ⟨w.heap.size, 0, none⟩)]] 73)) := hbs0
      go_wp2_with (go_at_call 32; refine hIX.mono ?_; rintro e wx ⟨rfl, rfl⟩)
      go_region
      go_wp2_with fail
      have eS : Ints (w3.alloc (Obj.cells #[Value.func (.func 31) #[] #[.pointer (some ⟨w.heap.size, 0, none⟩)]] 73)) _ T1 := HE.out.1
      have eC : Ints (w3.alloc (Obj.cells #[Value.func (.func 31) #[] #[.pointer (some ⟨w.heap.size, 0, none⟩)]] 73)) _ U1 := HE.out.2.1
      have eO : Ints (w3.alloc (Obj.cells #[Value.func (.func 31) #[] #[.pointer (some ⟨w.heap.size, 0, none⟩)]] 73)) _ l.due := HE.out.2.2
      clear HE hbsd
      generalize (w3.alloc (Obj.cells #[Value.func (.func 31) #[] #[.pointer (some ⟨w.heap.size, 0, none⟩)]] 73)) = ws at *
      try rw [HS.out]
      refine (concat_any _ _ [l.due, U1] _ (two_parts eO eC).1.drew (two_parts eO eC).2 (by simp; omega)).mono ?_
      rintro e x1 ⟨y1, rfl, ho1, hc1⟩
      have j2 := Below.call (w := ws) (Below.al (Below.refl _ ws) _).drew hc1
      go_wp2_with fail
      go_ret3
      refine ⟨_, _, rfl, ?_, ?_, Below.call hbs j2⟩
      · have := ho1.ints
        simpa [F1.out, F2.out] using this
      · rw [F2.out]; exact eS.keep j2
  · rw [hix] at hIX
    rw [hnl] at hV1 hV2
    have hn2 : ¬ ((l.come.length : Int) < 0) := by omega
    have HNL := Lib.hid hnl
    clear hix hnl
    have hbsd : Below w.heap.size w ((w3.alloc (Obj.cells #[Value.func (.func 31) #[] #[.pointer (some ⟨w.heap.size, 0, none⟩)]] 73)).drew) := Below.call hbs (Below.refl _ _).drew
    have hbs0 := hbs
    clear eS eC eO hbs
    by_cases hov : 0 < (l.due.length : Int) + (U1.length : Int) - l.room
    · exfalso; have := HNL.out; omega
    · have hmx : Lt.cutN l = n := by
        rw [Lt.cut_1 l HP.out, ← HN.out]; omega
      have FACT1 : Lt.dueOf l = l.due ++ U1 := by
        rw [Lt.due_n3 l (by rw [HP.out]; decide), hmx, HT1.out.2]
      have FACT2 : Lt.skipOf l = T1 := by
        rw [Lt.skip_n3 l (by rw [HP.out]; decide), hmx, HT1.out.1]
      have F1 := Lib.hid FACT1
      have F2 := Lib.hid FACT2
      clear FACT1 FACT2 hmx
      have HS : RowKit.Hid (w3.heap.size + 1 = ((w3.alloc (Obj.cells #[Value.func (.func 31) #[] #[.pointer (some ⟨w.heap.size, 0, none⟩)]] 73))).heap.size) := by
        show _ = _
        simp
      have hbs : Below w.heap.size w (w3.alloc (Obj.cells #[Value.func (.func 31) #[] #[.pointer (some ⟨w.heap.size, 0, none⟩)]] 73)) := hbs0
      go_wp2_with (go_at_call 32; refine hIX.mono ?_; rintro e wx ⟨rfl, rfl⟩)
      go_region
      go_wp2_with fail
      have eS : Ints (w3.alloc (Obj.cells #[Value.func (.func 31) #[] #[.pointer (some ⟨w.heap.size, 0, none⟩)]] 73)) _ T1 := HE.out.1
      have eC : Ints (w3.alloc (Obj.cells #[Value.func (.func 31) #[] #[.pointer (some ⟨w.heap.size, 0, none⟩)]] 73)) _ U1 := HE.out.2.1
      have eO : Ints (w3.alloc (Obj.cells #[Value.func (.func 31) #[] #[.pointer (some ⟨w.heap.size, 0, none⟩)]] 73)) _ l.due := HE.out.2.2
      clear HE hbsd
      generalize (w3.alloc (Obj.cells #[Value.func (.func 31) #[] #[.pointer (some ⟨w.heap.size, 0, none⟩)]] 73)) = ws at *
      try rw [HS.out]
      refine (concat_any _ _ [l.due, U1] _ (two_parts eO eC).1.drew (two_parts eO eC).2 (by simp; omega)).mono ?_
      rintro e x1 ⟨y1, rfl, ho1, hc1⟩
      have j2 := Below.call (w := ws) (Below.al (Below.refl _ ws) _).drew hc1
      go_wp2_with fail
      go_ret3
      refine ⟨_, _, rfl, ?_, ?_, Below.call hbs j2⟩
      · have := ho1.ints
        simpa [F1.out, F2.out] using this
      · rw [F2.out]; exact eS.keep j2
set_option maxRecDepth 100000 in
set_option maxHeartbeats 1000000 in
theorem judge_3 (l : Lt.Lot) (vd vc : Value) (w : World) (hD : Ints w vd l.due) (hC : Ints w vc l.come) (hm : Lt.may l = true) (hp : l.pol = 3) :
    Calls Try.prog 11 #[lotV l vd vc] w fun e w' => ∃ u v, e = .returned (.tuple #[u, v, .int .i64 0]) ∧ Ints w' u (Lt.dueOf l) ∧ Ints w' v (Lt.skipOf l) ∧ Below w.heap.size w w' := by
  obtain ⟨h, hr⟩ := (Lt.may_iff l).1 hm
  have hM := may_any l vd vc _ ((hD.keep ((Below.refl _ _).alloc (Nat.le_refl _) (.cells #[.int .i64 l.pol, .int .i64 l.grace, .int .i64 l.now, vd, vc, .int .i64 l.room] 24)))) (hC.keep ((Below.refl _ _).alloc (Nat.le_refl _) _))
  rw [hm] at hM
  have hb0 : Below w.heap.size w (w.alloc (.cells #[.int .i64 l.pol, .int .i64 l.grace, .int .i64 l.now, vd, vc, .int .i64 l.room] 24)) := (Below.refl _ _).alloc (Nat.le_refl _) _
  obtain ⟨W, hW⟩ : ∃ W, W = w.alloc (.cells #[.int .i64 l.pol, .int .i64 l.grace, .int .i64 l.now, vd, vc, .int .i64 l.room] 24) := ⟨_, rfl⟩
  have c0 : W.cell? ⟨w.heap.size, 0, none⟩ = some (.int .i64 l.pol) := by rw [hW, World.cell?_alloc_mark]; rfl
  have c1 : W.cell? ⟨w.heap.size, 1, none⟩ = some (.int .i64 l.grace) := by rw [hW, World.cell?_alloc_mark]; rfl
  have c2 : W.cell? ⟨w.heap.size, 2, none⟩ = some (.int .i64 l.now) := by rw [hW, World.cell?_alloc_mark]; rfl
  have c3 : W.cell? ⟨w.heap.size, 3, none⟩ = some vd := by rw [hW, World.cell?_alloc_mark]; rfl
  have c4 : W.cell? ⟨w.heap.size, 4, none⟩ = some vc := by rw [hW, World.cell?_alloc_mark]; rfl
  have c5 : W.cell? ⟨w.heap.size, 5, none⟩ = some (.int .i64 l.room) := by rw [hW, World.cell?_alloc_mark]; rfl
  rw [← hW] at hb0
  have C := Lib.hid (And.intro c0 (And.intro c1 (And.intro c2 (And.intro c3 (And.intro c4 c5)))))
  clear c0 c1 c2 c3 c4 c5
  obtain ⟨ao, ca, rfl, -, -, -⟩ := hD.form
  obtain ⟨bo, cb, rfl, -, -, -⟩ := hC.form
  have HW := Lib.hid hW
  have q3 : (l.pol == 3) = true := by simp; omega
  have q1 : (l.pol == 1) = false := by simp; omega
  have HP := Lib.hid hp
  clear hp
  clear hW
  unfold lotV at *
  go_enter Try.func11, Try.ntmps11
  go_wp2_with fail
  refine hM.mono ?_
  rintro e w1 ⟨rfl, hb1⟩
  rw [← HW.out] at hb1
  have d3 := below_at hb1 C.out.2.2.2.1
  go_wp2_with fail
  refine (clone_any _ l.due _ (hD.keep (Below.call hb0 hb1)) (by omega)).mono ?_
  rintro e w2 ⟨vo, rfl, ho, hb2⟩
  have hb2 := Below.call hb1 hb2
  have d4 := below_at hb2 C.out.2.2.2.2.1
  go_wp2_with fail
  refine (clone_any _ l.come _ (hC.keep (Below.call hb0 hb2)) (by omega)).mono ?_
  rintro e w3 ⟨vk, rfl, hk, hb3⟩
  have hO : Ints w3 vo l.due := ho.ints.keep hb3
  have hC3 : Ints w3 vk l.come := hk.ints
  have hb3 := Below.call hb2 hb3
  have d0 := below_at hb3 C.out.1
  clear hM ho hk hb1 hb2 d3 d4
  obtain ⟨oo, co, rfl, o1, o2, o3⟩ := hO.form
  obtain ⟨ko, ck, rfl, k1, k2, k3⟩ := hC3.form
  have hb4 : Below w3.heap.size w3 (w3.alloc (.cells #[.func (.func 31) #[] #[.pointer (some ⟨w.heap.size, 0, none⟩)]] 73)) := (Below.refl _ _).alloc (Nat.le_refl _) _
  have d0' := below_at hb4 d0
  have d5 := below_at hb4 (below_at hb3 C.out.2.2.2.2.2)
  have eO : Ints _ _ l.due := hO.keep hb4
  have eC : Ints _ _ l.come := hC3.keep hb4
  have hbs := Below.call (Below.call hb0 hb3) hb4
  clear hb2 d0 hO hC3
  have d4 := below_at hb4 (below_at hb3 C.out.2.2.2.2.1)
  have HS : RowKit.Hid (w3.heap.size + 1 = (w3.alloc (Obj.cells #[Value.func (.func 31) #[] #[.pointer (some ⟨w.heap.size, 0, none⟩)]] 73)).heap.size) := by
    show _ = _
    simp
  go_wp2_with fail
  generalize (w3.alloc (Obj.cells #[Value.func (.func 31) #[] #[.pointer (some ⟨w.heap.size, 0, none⟩)]] 73)) = wq at *
  rw [HS.out]
  refine (concat_any _ _ [l.due, l.come] _ (two_parts eO eC).1 (two_parts eO eC).2 (by simp; omega)).mono ?_
  rintro e w5 ⟨va, rfl, hoa, hc5⟩
  have hb5 := Below.call (w := wq) (Below.al (Below.refl _ wq) _) hc5
  have eA : Ints w5 va (l.due ++ l.come) := by
    have := hoa.ints
    simpa using this
  have eO : Ints w5 _ l.due := eO.keep hb5
  have eC : Ints w5 _ l.come := eC.keep hb5
  have d5 := below_at hb5 d5
  have d4 := below_at hb5 d4
  have hbs := Below.call hbs hb5
  clear hb5 hc5 hoa HS d0' hb4 hb3
  obtain ⟨A, hA⟩ : ∃ A, A = l.due ++ l.come := ⟨_, rfl⟩
  have hAl1 : A.length ≤ l.due.length + l.come.length := by rw [hA]; simp
  have hAl2 : l.due.length + l.come.length ≤ A.length := by rw [hA]; simp
  rw [← hA] at eA
  have HA := Lib.hid hA
  clear hA
  obtain ⟨xo, xc, rfl, x1, x2, x3⟩ := eA.form
  by_cases hn1 : 1 < A.length
  · have hn1' : (1 : Int) < (A.length : Int) := by omega
    obtain ⟨p, hpp⟩ : ∃ p : Nat, (A.length : Int) - 1 = (p : Int) := ⟨A.length - 1, by omega⟩
    obtain ⟨V1, hV1, hV1'⟩ := cut_h (P := Try.prog) Try.underlying22 Try.size2 xo A.length xc p (by omega)
    obtain ⟨V2, hV2, hV2'⟩ := cut_l (P := Try.prog) Try.underlying22 Try.size2 xo A.length xc p (by omega)
    have eS0 := Ints.take (hV1' _ _ eA (by simp; omega))
    have eU0 := Ints.drop (hV2' _ _ eA (by simp))
    clear hV1' hV2' eO eC eA
    obtain ⟨T1, hT1⟩ : ∃ T1, T1 = A.take p := ⟨_, rfl⟩
    obtain ⟨U1, hU1⟩ : ∃ U1, U1 = A.drop p := ⟨_, rfl⟩
    have hUl1 : U1.length ≤ 1 := by rw [hU1]; simp; omega
    have hUl2 : 1 ≤ U1.length := by rw [hU1]; simp; omega
    have hTl1 : T1.length ≤ 1000 := by rw [hT1]; simp; omega
    rw [← hT1] at eS0
    rw [← hU1] at eU0
    have eS : Ints w5 _ T1 := eS0
    have eU : Ints w5 _ U1 := eU0
    clear eS0 eU0
    obtain ⟨so, sc, rfl, -, -, -⟩ := eS.form
    obtain ⟨ko2, ck2, rfl, k4, k5, k6⟩ := eU.form
    have HT1 := Lib.hid (And.intro hT1 hU1)
    clear hT1 hU1
    by_cases hce : l.come.length = 0
    · have hce' : ((l.come.length : Int) == 0) = true := by rw [hce]; rfl
      have hov : ¬ (0 < (U1.length : Int) - l.room) := by omega
      have hcut : Lt.cutN l = p := by rw [Lt.cut_3 l HP.out, if_neg (show ¬ l.room ≤ 0 by omega)]; omega
      have FACT1 : Lt.dueOf l = U1 := by
        rw [Lt.due_3 l HP.out, hcut, ← HA.out]; exact HT1.out.2.symm
      have FACT2 : Lt.skipOf l = T1 := by
        rw [Lt.skip_3 l HP.out, hcut, ← HA.out]; exact HT1.out.1.symm
      have F1 := Lib.hid FACT1
      have F2 := Lib.hid FACT2
      clear FACT1 FACT2
      clear hcut
      have HCE := Lib.hid hce
      clear hce
      go_wp2_with fail
      go_region
      go_wp2_with fail
      have eO := eU
      have eC : Ints w5 (.slice none 0 0) [] := Sli.nil w5
      refine (concat_any _ _ [U1, []] _ (two_parts eO eC).1.drew (two_parts eO eC).2 (by simp; omega)).mono ?_
      rintro e x1 ⟨y1, rfl, ho1, hc1⟩
      have j2 := Below.call (w := w5) (Below.al (Below.refl _ w5) _).drew hc1
      go_wp2_with fail
      go_ret3
      refine ⟨_, _, rfl, ?_, ?_, Below.call hbs j2⟩
      · have := ho1.ints
        simpa [F1.out, F2.out] using this
      · rw [F2.out]; exact eS.keep j2
    · have hce' : ((l.come.length : Int) == 0) = false := beq_false_of_ne (by omega)
      by_cases hov : 0 < (U1.length : Int) - l.room
      · obtain ⟨m, hm2⟩ := Int.eq_ofNat_of_zero_le (show 0 ≤ (U1.length : Int) - l.room by omega)
        have hm0 : (0 : Int) < (m : Int) := by omega
        have hcut : Lt.cutN l = A.length := by rw [Lt.cut_3 l HP.out, if_pos (show l.room ≤ 0 by omega)]; omega
        have FACT1 : Lt.dueOf l = U1.drop m := by
          rw [Lt.due_3 l HP.out, hcut, ← HA.out]; rw [List.drop_eq_nil_of_le (Nat.le_refl _), List.drop_eq_nil_of_le (by omega)]
        have FACT2 : Lt.skipOf l = T1 ++ U1.take m := by
          rw [Lt.skip_3 l HP.out, hcut, ← HA.out]; rw [List.take_of_length_le (Nat.le_refl _), List.take_of_length_le (l := U1) (by omega), HT1.out.1, HT1.out.2, List.take_append_drop]
        have F1 := Lib.hid FACT1
        have F2 := Lib.hid FACT2
        clear FACT1 FACT2
        clear hcut
        have HCE := Lib.hid hce
        clear hce
        obtain ⟨V3, hV3, hV3'⟩ := cut_h (P := Try.prog) Try.underlying22 Try.size2 ko2 U1.length ck2 m (by omega)
        obtain ⟨V4, hV4, hV4'⟩ := cut_l (P := Try.prog) Try.underlying22 Try.size2 ko2 U1.length ck2 m (by omega)
        have eO : Ints w5 (.slice none 0 0) [] := Sli.nil w5
        have HE := Lib.hid (And.intro (Sli.drew eS) (And.intro (Sli.drew eU) (Sli.drew eO)))
        have hbs : Below w.heap.size w w5.drew := Below.call hbs (Below.refl _ _).drew
        clear eS eU eO
        go_wp2_with fail
        go_region
        go_wp2_with fail
        obtain ⟨eS, eC, eO⟩ := HE.out
        have eS : Ints _ _ T1 := eS
        have eC : Ints _ _ U1 := eC
        have eO : Ints _ _ [] := eO
        clear HE
        generalize w5.drew = ws at *
        have eT : Ints ws V3 ((U1).take m) := Ints.take (hV3' _ _ eC (by simp; omega))
        have eU : Ints ws V4 ((U1).drop m) := Ints.drop (hV4' _ _ eC (by simp))
        obtain ⟨T, hT⟩ : ∃ T, T = (U1).take m := ⟨_, rfl⟩
        obtain ⟨U, hU⟩ : ∃ U, U = (U1).drop m := ⟨_, rfl⟩
        have hTl : T.length ≤ 1000 := by rw [hT]; simp; omega
        have hUl : U.length ≤ 1000 := by rw [hU]; simp; omega
        rw [← hT] at eT
        rw [← hU] at eU
        have HT := Lib.hid hT
        have HU := Lib.hid hU
        clear hT hU
        obtain ⟨to, tc, rfl, -, -, -⟩ := eT.form
        obtain ⟨uo, uc, rfl, -, -, -⟩ := eU.form
        refine wp_region_held_drew (S := fun w' => Below ws.heap.size ws w') (by kernel_rfl) (Below.refl _ _).drew (fun h0 => ?_)
        refine wpAnyH_take (i := 0) (oi := { dst := _, op := _, type := _, pos := _, after := _, guard := _ }) (v := ?vqd0) rfl (by kernel_rfl) (by kernel_rfl) (by kernel_rfl) (fun _ _ _ h => h) (Or.inl ⟨by rfl, ?yqd0⟩) (by assumption) ?rqd0; (case yqd0 => intro w hSw; go_simp <;> with_reducible rfl); simp only [Act.put, List.setIfInBounds_toArray, List.set_cons_zero, List.set_cons_succ]
        refine wpAnyH_take (i := 1) (oi := { dst := _, op := _, type := _, pos := _, after := _, guard := _ }) (v := ?vqd1) rfl (by kernel_rfl) (by kernel_rfl) (by kernel_rfl) (fun _ _ _ h => h) (Or.inl ⟨by rfl, ?yqd1⟩) (by assumption) ?rqd1; (case yqd1 => intro w hSw; go_simp <;> with_reducible rfl); simp only [Act.put, List.setIfInBounds_toArray, List.set_cons_zero, List.set_cons_succ]
        refine wpAnyH_take (i := 2) (oi := { dst := _, op := _, type := _, pos := _, after := _, guard := _ }) (v := ?vqd2) rfl (by kernel_rfl) (by kernel_rfl) (by kernel_rfl) (fun _ _ _ h => h) (Or.inl ⟨by rfl, ?yqd2⟩) (by assumption) ?rqd2; (case yqd2 => intro w hSw; go_simp <;> with_reducible rfl); simp only [Act.put, List.setIfInBounds_toArray, List.set_cons_zero, List.set_cons_succ]
        refine wpAnyH_take (i := 3) (oi := { dst := _, op := _, type := _, pos := _, after := _, guard := _ }) (v := ?vqd3) rfl (by kernel_rfl) (by kernel_rfl) (by kernel_rfl) (fun _ _ _ h => h) (Or.inl ⟨by rfl, ?yqd3⟩) (by assumption) ?rqd3; (case yqd3 => intro w hSw; go_simp <;> with_reducible rfl); simp only [Act.put, List.setIfInBounds_toArray, List.set_cons_zero, List.set_cons_succ]
        refine wpAnyH_take (i := 6) (oi := { dst := _, op := _, type := _, pos := _, after := _, guard := _ }) (v := ?vqd6) rfl (by kernel_rfl) (by kernel_rfl) (by kernel_rfl) (fun _ _ _ h => h) (Or.inl ⟨by rfl, ?yqd6⟩) (by assumption) ?rqd6; (case yqd6 => intro w hSw; go_simp <;> with_reducible rfl); simp only [Act.put, List.setIfInBounds_toArray, List.set_cons_zero, List.set_cons_succ]
        refine wpAnyH_take (i := 7) (oi := { dst := _, op := _, type := _, pos := _, after := _, guard := _ }) (v := ?vqd7) rfl (by kernel_rfl) (by kernel_rfl) (by kernel_rfl) (fun _ _ _ h => h) (Or.inl ⟨by rfl, ?yqd7⟩) (by assumption) ?rqd7; (case yqd7 => intro w hSw; go_simp <;> with_reducible rfl); simp only [Act.put, List.setIfInBounds_toArray, List.set_cons_zero, List.set_cons_succ]
        refine wpAnyH_take (i := 8) (oi := { dst := _, op := _, type := _, pos := _, after := _, guard := _ }) (v := ?vqd8) rfl (by kernel_rfl) (by kernel_rfl) (by kernel_rfl) (fun _ _ _ h => h) (Or.inl ⟨by rfl, ?yqd8⟩) (by assumption) ?rqd8; (case yqd8 => intro w hSw; go_simp <;> with_reducible rfl); simp only [Act.put, List.setIfInBounds_toArray, List.set_cons_zero, List.set_cons_succ]
        refine wpAnyH_ready (rs := [4]) (by kernel_rfl) (by simp) ?_
        refine AllReadyH.cons (o := { dst := _, op := _, type := _, pos := _, after := _, guard := _ }) rfl (fun K hK => ?_) AllReadyH.nil
        go_simp
        refine hK.out _ _ (Below.al (Below.refl _ ws) _).drew (fun j1 => ?_)
        clear hK K
        refine wpAnyH_ready (rs := [5]) (by kernel_rfl) (by simp) ?_
        refine AllReadyH.cons (o := { dst := _, op := _, type := _, pos := _, after := _, guard := _ }) rfl (fun K hK => ?_) AllReadyH.nil
        go_simp
        refine (concat_any _ _ [T1, T] _ (two_parts eS eT).1.drew (two_parts eS eT).2 (by simp; omega)).mono ?_
        rintro e x1 ⟨y1, rfl, ho1, hc1⟩
        have j2 := Below.call j1 hc1
        refine hK.out _ _ j2 (fun _ => ?_)
        clear hK K
        refine wpAnyH_take (i := 9) (oi := { dst := _, op := _, type := _, pos := _, after := _, guard := _ }) (v := ?vqd9) rfl (by kernel_rfl) (by kernel_rfl) (by kernel_rfl) (fun _ _ _ h => h) (Or.inl ⟨by rfl, ?yqd9⟩) (by assumption) ?rqd9; (case yqd9 => intro w hSw; go_simp <;> with_reducible rfl); simp only [Act.put, List.setIfInBounds_toArray, List.set_cons_zero, List.set_cons_succ]
        refine wpAnyH_take (i := 10) (oi := { dst := _, op := _, type := _, pos := _, after := _, guard := _ }) (v := ?vqd10) rfl (by kernel_rfl) (by kernel_rfl) (by kernel_rfl) (fun _ _ _ h => h) (Or.inl ⟨by rfl, ?yqd10⟩) (by assumption) ?rqd10; (case yqd10 => intro w hSw; go_simp <;> with_reducible rfl); simp only [Act.put, List.setIfInBounds_toArray, List.set_cons_zero, List.set_cons_succ]
        refine wpAnyH_done (by kernel_rfl) ?_ _
        go_wp2_with fail
        have eO2 := eO.keep j2
        have eU2 := eU.keep j2
        refine (concat_any _ _ [[], U] _ (two_parts eO2 eU2).1 (two_parts eO2 eU2).2 (by simp; omega)).mono ?_
        rintro e x2 ⟨y2, rfl, ho2, hc2⟩
        have j4 := Below.call (w := x1) (Below.al (Below.refl _ x1) _) hc2
        clear hV3 hV4 hV3' hV4'
        go_wp2_with fail
        go_ret3
        refine ⟨_, _, rfl, ?_, ?_, Below.call (Below.call hbs j2) j4⟩
        · have := ho2.ints
          rw [HU.out] at this
          simpa [F1.out, F2.out] using this
        · have : Ints x2 y1 _ := ho1.ints.keep j4
          rw [HT.out] at this
          simpa [F1.out, F2.out] using this
      · have hcut : Lt.cutN l = p := by rw [Lt.cut_3 l HP.out, if_neg (show ¬ l.room ≤ 0 by omega)]; omega
        have FACT1 : Lt.dueOf l = U1 := by
          rw [Lt.due_3 l HP.out, hcut, ← HA.out]; exact HT1.out.2.symm
        have FACT2 : Lt.skipOf l = T1 := by
          rw [Lt.skip_3 l HP.out, hcut, ← HA.out]; exact HT1.out.1.symm
        have F1 := Lib.hid FACT1
        have F2 := Lib.hid FACT2
        clear FACT1 FACT2
        clear hcut
        have HCE := Lib.hid hce
        clear hce
        go_wp2_with fail
        go_region
        go_wp2_with fail
        have eC := eU
        have eO : Ints w5 (.slice none 0 0) [] := Sli.nil w5
        refine (concat_any _ _ [[], U1] _ (two_parts eO eC).1.drew (two_parts eO eC).2 (by simp; omega)).mono ?_
        rintro e x1 ⟨y1, rfl, ho1, hc1⟩
        have j2 := Below.call (w := w5) (Below.al (Below.refl _ w5) _).drew hc1
        go_wp2_with fail
        go_ret3
        refine ⟨_, _, rfl, ?_, ?_, Below.call hbs j2⟩
        · have := ho1.ints
          simpa [F1.out, F2.out] using this
        · rw [F2.out]; exact eS.keep j2
  · have hn1' : ¬ (1 : Int) < (A.length : Int) := by omega
    have eN : Ints w5 (.slice none 0 0) [] := Sli.nil w5
    by_cases hce : l.come.length = 0
    · have hce' : ((l.come.length : Int) == 0) = true := by rw [hce]; rfl
      have hov : ¬ (0 < (A.length : Int) - l.room) := by omega
      have hcut : Lt.cutN l = 0 := by rw [Lt.cut_3 l HP.out]; split <;> omega
      have FACT1 : Lt.dueOf l = A := by
        rw [Lt.due_3 l HP.out, hcut, ← HA.out]; rfl
      have FACT2 : Lt.skipOf l = [] := by
        rw [Lt.skip_3 l HP.out, hcut, ← HA.out]; rfl
      have F1 := Lib.hid FACT1
      have F2 := Lib.hid FACT2
      clear FACT1 FACT2
      clear hcut
      have HCE := Lib.hid hce
      clear hce
      go_wp2_with fail
      have eO := eA
      have eC := eN
      have eS := eN
      refine (concat_any _ _ [A, []] _ (two_parts eO eC).1 (two_parts eO eC).2 (by simp; omega)).mono ?_
      rintro e x1 ⟨y1, rfl, ho1, hc1⟩
      have j2 := Below.call (w := w5) (Below.al (Below.refl _ w5) _) hc1
      go_wp2_with fail
      go_ret3
      refine ⟨_, _, rfl, ?_, ?_, Below.call hbs j2⟩
      · have := ho1.ints
        simpa [F1.out, F2.out] using this
      · rw [F2.out]; exact eS.keep j2
    · have hce' : ((l.come.length : Int) == 0) = false := beq_false_of_ne (by omega)
      have eS := eN
      by_cases hov : 0 < (l.due.length : Int) + (l.come.length : Int) - l.room
      · obtain ⟨m, hm2⟩ := Int.eq_ofNat_of_zero_le (show 0 ≤ (l.due.length : Int) + (l.come.length : Int) - l.room by omega)
        have hm0 : (0 : Int) < (m : Int) := by omega
        have hcut : Lt.cutN l = A.length := by rw [Lt.cut_3 l HP.out, if_pos (show l.room ≤ 0 by omega)]; omega
        have hd0 : l.due = [] := List.eq_nil_of_length_eq_zero (by omega)
        have FACT1 : Lt.dueOf l = l.due ++ l.come.drop m := by
          rw [Lt.due_3 l HP.out, hcut, ← HA.out]; rw [List.drop_eq_nil_of_le (Nat.le_refl _), List.drop_eq_nil_of_le (show l.come.length ≤ m by omega), hd0]; rfl
        have FACT2 : Lt.skipOf l = l.come.take m := by
          rw [Lt.skip_3 l HP.out, hcut, ← HA.out]; rw [List.take_of_length_le (Nat.le_refl _), List.take_of_length_le (l := l.come) (by omega), HA.out, hd0]; rfl
        have F1 := Lib.hid FACT1
        have F2 := Lib.hid FACT2
        clear FACT1 FACT2
        clear hcut hd0
        have HCE := Lib.hid hce
        clear hce
        obtain ⟨V3, hV3, hV3'⟩ := cut_h (P := Try.prog) Try.underlying22 Try.size2 ko l.come.length ck m (by omega)
        obtain ⟨V4, hV4, hV4'⟩ := cut_l (P := Try.prog) Try.underlying22 Try.size2 ko l.come.length ck m (by omega)
        go_wp2_with fail
        have eT : Ints w5 V3 ((l.come).take m) := Ints.take (hV3' _ _ eC (by simp; omega))
        have eU : Ints w5 V4 ((l.come).drop m) := Ints.drop (hV4' _ _ eC (by simp))
        obtain ⟨T, hT⟩ : ∃ T, T = (l.come).take m := ⟨_, rfl⟩
        obtain ⟨U, hU⟩ : ∃ U, U = (l.come).drop m := ⟨_, rfl⟩
        have hTl : T.length ≤ 1000 := by rw [hT]; simp; omega
        have hUl : U.length ≤ 1000 := by rw [hU]; simp; omega
        rw [← hT] at eT
        rw [← hU] at eU
        have HT := Lib.hid hT
        have HU := Lib.hid hU
        clear hT hU
        obtain ⟨to, tc, rfl, -, -, -⟩ := eT.form
        obtain ⟨uo, uc, rfl, -, -, -⟩ := eU.form
        refine wp_region_held_drew (S := fun w' => Below w5.heap.size w5 w') (by kernel_rfl) (Below.refl _ _).drew (fun h0 => ?_)
        refine wpAnyH_take (i := 0) (oi := { dst := _, op := _, type := _, pos := _, after := _, guard := _ }) (v := ?vqe0) rfl (by kernel_rfl) (by kernel_rfl) (by kernel_rfl) (fun _ _ _ h => h) (Or.inl ⟨by rfl, ?yqe0⟩) (by assumption) ?rqe0; (case yqe0 => intro w hSw; go_simp <;> with_reducible rfl); simp only [Act.put, List.setIfInBounds_toArray, List.set_cons_zero, List.set_cons_succ]
        refine wpAnyH_take (i := 1) (oi := { dst := _, op := _, type := _, pos := _, after := _, guard := _ }) (v := ?vqe1) rfl (by kernel_rfl) (by kernel_rfl) (by kernel_rfl) (fun _ _ _ h => h) (Or.inl ⟨by rfl, ?yqe1⟩) (by assumption) ?rqe1; (case yqe1 => intro w hSw; go_simp <;> with_reducible rfl); simp only [Act.put, List.setIfInBounds_toArray, List.set_cons_zero, List.set_cons_succ]
        refine wpAnyH_take (i := 2) (oi := { dst := _, op := _, type := _, pos := _, after := _, guard := _ }) (v := ?vqe2) rfl (by kernel_rfl) (by kernel_rfl) (by kernel_rfl) (fun _ _ _ h => h) (Or.inl ⟨by rfl, ?yqe2⟩) (by assumption) ?rqe2; (case yqe2 => intro w hSw; go_simp <;> with_reducible rfl); simp only [Act.put, List.setIfInBounds_toArray, List.set_cons_zero, List.set_cons_succ]
        refine wpAnyH_take (i := 3) (oi := { dst := _, op := _, type := _, pos := _, after := _, guard := _ }) (v := ?vqe3) rfl (by kernel_rfl) (by kernel_rfl) (by kernel_rfl) (fun _ _ _ h => h) (Or.inl ⟨by rfl, ?yqe3⟩) (by assumption) ?rqe3; (case yqe3 => intro w hSw; go_simp <;> with_reducible rfl); simp only [Act.put, List.setIfInBounds_toArray, List.set_cons_zero, List.set_cons_succ]
        refine wpAnyH_take (i := 6) (oi := { dst := _, op := _, type := _, pos := _, after := _, guard := _ }) (v := ?vqe6) rfl (by kernel_rfl) (by kernel_rfl) (by kernel_rfl) (fun _ _ _ h => h) (Or.inl ⟨by rfl, ?yqe6⟩) (by assumption) ?rqe6; (case yqe6 => intro w hSw; go_simp <;> with_reducible rfl); simp only [Act.put, List.setIfInBounds_toArray, List.set_cons_zero, List.set_cons_succ]
        refine wpAnyH_take (i := 7) (oi := { dst := _, op := _, type := _, pos := _, after := _, guard := _ }) (v := ?vqe7) rfl (by kernel_rfl) (by kernel_rfl) (by kernel_rfl) (fun _ _ _ h => h) (Or.inl ⟨by rfl, ?yqe7⟩) (by assumption) ?rqe7; (case yqe7 => intro w hSw; go_simp <;> with_reducible rfl); simp only [Act.put, List.setIfInBounds_toArray, List.set_cons_zero, List.set_cons_succ]
        refine wpAnyH_take (i := 8) (oi := { dst := _, op := _, type := _, pos := _, after := _, guard := _ }) (v := ?vqe8) rfl (by kernel_rfl) (by kernel_rfl) (by kernel_rfl) (fun _ _ _ h => h) (Or.inl ⟨by rfl, ?yqe8⟩) (by assumption) ?rqe8; (case yqe8 => intro w hSw; go_simp <;> with_reducible rfl); simp only [Act.put, List.setIfInBounds_toArray, List.set_cons_zero, List.set_cons_succ]
        refine wpAnyH_ready (rs := [4]) (by kernel_rfl) (by simp) ?_
        refine AllReadyH.cons (o := { dst := _, op := _, type := _, pos := _, after := _, guard := _ }) rfl (fun K hK => ?_) AllReadyH.nil
        go_simp
        refine hK.out _ _ (Below.al (Below.refl _ w5) _).drew (fun j1 => ?_)
        clear hK K
        refine wpAnyH_ready (rs := [5]) (by kernel_rfl) (by simp) ?_
        refine AllReadyH.cons (o := { dst := _, op := _, type := _, pos := _, after := _, guard := _ }) rfl (fun K hK => ?_) AllReadyH.nil
        go_simp
        refine (concat_any _ _ [[], T] _ (two_parts eS eT).1.drew (two_parts eS eT).2 (by simp; omega)).mono ?_
        rintro e x1 ⟨y1, rfl, ho1, hc1⟩
        have j2 := Below.call j1 hc1
        refine hK.out _ _ j2 (fun _ => ?_)
        clear hK K
        refine wpAnyH_take (i := 9) (oi := { dst := _, op := _, type := _, pos := _, after := _, guard := _ }) (v := ?vqe9) rfl (by kernel_rfl) (by kernel_rfl) (by kernel_rfl) (fun _ _ _ h => h) (Or.inl ⟨by rfl, ?yqe9⟩) (by assumption) ?rqe9; (case yqe9 => intro w hSw; go_simp <;> with_reducible rfl); simp only [Act.put, List.setIfInBounds_toArray, List.set_cons_zero, List.set_cons_succ]
        refine wpAnyH_take (i := 10) (oi := { dst := _, op := _, type := _, pos := _, after := _, guard := _ }) (v := ?vqe10) rfl (by kernel_rfl) (by kernel_rfl) (by kernel_rfl) (fun _ _ _ h => h) (Or.inl ⟨by rfl, ?yqe10⟩) (by assumption) ?rqe10; (case yqe10 => intro w hSw; go_simp <;> with_reducible rfl); simp only [Act.put, List.setIfInBounds_toArray, List.set_cons_zero, List.set_cons_succ]
        refine wpAnyH_done (by kernel_rfl) ?_ _
        go_wp2_with fail
        have eO2 := eO.keep j2
        have eU2 := eU.keep j2
        refine (concat_any _ _ [l.due, U] _ (two_parts eO2 eU2).1 (two_parts eO2 eU2).2 (by simp; omega)).mono ?_
        rintro e x2 ⟨y2, rfl, ho2, hc2⟩
        have j4 := Below.call (w := x1) (Below.al (Below.refl _ x1) _) hc2
        clear hV3 hV4 hV3' hV4'
        go_wp2_with fail
        go_ret3
        refine ⟨_, _, rfl, ?_, ?_, Below.call (Below.call hbs j2) j4⟩
        · have := ho2.ints
          rw [HU.out] at this
          simpa [F1.out, F2.out] using this
        · have : Ints x2 y1 _ := ho1.ints.keep j4
          rw [HT.out] at this
          simpa [F1.out, F2.out] using this
      · have hcut : Lt.cutN l = 0 := by rw [Lt.cut_3 l HP.out, if_neg (show ¬ l.room ≤ 0 by omega)]; omega
        have FACT1 : Lt.dueOf l = l.due ++ l.come := by
          rw [Lt.due_3 l HP.out, hcut, ← HA.out]; rfl
        have FACT2 : Lt.skipOf l = [] := by
          rw [Lt.skip_3 l HP.out, hcut, ← HA.out]; rfl
        have F1 := Lib.hid FACT1
        have F2 := Lib.hid FACT2
        clear FACT1 FACT2
        clear hcut
        have HCE := Lib.hid hce
        clear hce
        go_wp2_with fail
        refine (concat_any _ _ [l.due, l.come] _ (two_parts eO eC).1 (two_parts eO eC).2 (by simp; omega)).mono ?_
        rintro e x1 ⟨y1, rfl, ho1, hc1⟩
        have j2 := Below.call (w := w5) (Below.al (Below.refl _ w5) _) hc1
        go_wp2_with fail
        go_ret3
        refine ⟨_, _, rfl, ?_, ?_, Below.call hbs j2⟩
        · have := ho1.ints
          simpa [F1.out, F2.out] using this
        · rw [F2.out]; exact eS.keep j2
theorem judge_yes (l : Lt.Lot) (vd vc : Value) (w : World) (hD : Ints w vd l.due) (hC : Ints w vc l.come) (hm : Lt.may l = true) :
    Calls Try.prog 11 #[lotV l vd vc] w fun e w' => ∃ u v, e = .returned (.tuple #[u, v, .int .i64 0]) ∧ Ints w' u (Lt.dueOf l) ∧ Ints w' v (Lt.skipOf l) ∧ Below w.heap.size w w' := by
  obtain ⟨h, -⟩ := (Lt.may_iff l).1 hm
  rcases (show l.pol = 1 ∨ l.pol = 2 ∨ l.pol = 3 by omega) with h1 | h1 | h1
  · exact judge_1 l vd vc w hD hC hm h1
  · exact judge_2 l vd vc w hD hC hm h1
  · exact judge_3 l vd vc w hD hC hm h1
end Go.Proofs.Ytaepkmjlkenenaa
