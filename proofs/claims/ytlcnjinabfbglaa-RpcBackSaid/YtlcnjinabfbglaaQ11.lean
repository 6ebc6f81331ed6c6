/- The chapter's rows (known). -/
import Derived.Test.YtlcnjinabfbglaaQ10
namespace Go.Proofs.Ytlcnjinabfbglaa
open Go.RowKit
theorem own_lit0 (w : World) : OwnB w.heap.size (w.alloc (.cells #[] 5)) (.slice (some ⟨w.heap.size, 0, none⟩) 0 0) [] :=
  World.ownsRow_lit (base := w.heap.size) w #[] 0 (Nat.le_refl _) (by decide) rfl
/-- APPEND of bytes to a row of bytes of the call's own -/
theorem wpList_appB (w : World) {ops : Array Oper} {rest : List Oper} {o : Oper} {a : Act} {Q : Exit → Act → World → Prop} (hgd : o.guard = none) (s x : Operand)
    (ho : o.op = .call { callee := .builtin .append, args := #[s, x], argTypes := #[22, 22] })
    (B : Nat) {v vx : Value} {l lx : List UInt8} (h : OwnB B w v l) (hX : Bts w vx lx) (hs : a.eval s = v) (hx : a.eval x = vx) (hsmall : l.length + lx.length ≤ 1000000) (hbase : B ≤ w.heap.size)
    (hK : ∀ ao' cap' w', OwnB B w' (.slice ao' (l.length + lx.length) cap') (l ++ lx) → w.grownBy w' v.ownBlock → Below B w w' → wpList Try.prog ops Q rest (a.put o.dst (.slice ao' (l.length + lx.length) cap')) w') : wpList Try.prog ops Q (o :: rest) a w := by
  obtain ⟨ao, cap, rfl, h1, h2, h3⟩ := hX.form
  refine wpList_app w hgd s x 22 ho B 5 (.int .u8 0) 1 Try.underlying22 Try.info5 (by decide) rfl h hs ao _ cap (lx.map by8) hx h3 (List.length_map ..) (Sli.lie hX) (by8_one _) (by omega) hbase ?_
  intro v' w' k1 k2 k3
  obtain ⟨ao', cap', rfl, -, -⟩ := own_form k1
  refine hK ao' cap' w' ?_ k2 k3
  unfold OwnB
  rw [List.map_append, List.length_append]
  exact k1
theorem scan_nil : Fr.scan [] = ([], 0) := by
  unfold Fr.scan
  simp [Fr.scanF, Fr.first]
theorem first_2 : Fr.first Fr.ck4 [90, 0] = none := by
  have h : Pk.takeText [90, 0] 1 = some ([], 2) := by decide +kernel
  unfold Fr.first
  rw [h]
  simp
theorem frame_nil : (Fr.frame Fr.ck4 []).length = 6 := by
  rw [Fr.frame_len Fr.ck4_len]; decide +kernel
theorem frame_a (x : UInt8) : (Fr.frame Fr.ck4 [x]).length = 7 := by
  rw [Fr.frame_len Fr.ck4_len]; rfl
theorem scan_ab : Fr.scan (Fr.frame Fr.ck4 [97] ++ Fr.frame Fr.ck4 [98] ++ [90, 0]) = ([[97], [98]], 14) := by
  have h := Fr.scan_of [[97], [98]] [90, 0] first_2 (by intro s hs; simp at hs; rcases hs with rfl | rfl <;> decide)
  have e : Fr.frames Fr.ck4 [[97], [98]] = Fr.frame Fr.ck4 [97] ++ Fr.frame Fr.ck4 [98] := by simp [Fr.frames]
  rw [e] at h
  rw [h, List.length_append, frame_a, frame_a]
set_option maxRecDepth 100000 in
set_option maxHeartbeats 4000000 in
theorem known03_any (w : World) : Calls Try.prog 29 #[] w fun e w' => e = .returned (.bool true) ∧ Below w.heap.size w w' := by
  have hfa := frame_a 97
  have hfb := frame_a 98
  have hsc := scan_ab
  go_enter Try.func29, Try.ntmps29
  go_wp2_with fail
  refine (putF_le _ [] _ (Sli.nil _) (by decide)).mono ?_
  rintro e w1 ⟨v1, rfl, hb1, ho1⟩
  obtain ⟨xo, xc, rfl, -, -⟩ := own_form ho1
  rw [frame_nil]
  clear ho1
  go_wp2_with fail
  refine (scan_any _ [] _ (Sli.nil _) (by decide)).mono ?_
  rintro e w2 ⟨v2, us2, rfl, hr2, hb2⟩
  rw [scan_nil] at hr2 ⊢
  obtain ⟨lo, lc, rfl, -, -⟩ := own_form hr2.own
  replace hb2 := Below.call hb1 hb2
  clear hr2 hb1
  simp only [List.length_nil]
  have kc := fun (w : World) (C : Array Value) (n c : Nat) => Lib.run_convert_bytes_const (P := Try.prog) w 22 5 C n c Try.underlying22 Try.underlying5
  go_wp2_with fail
  refine (putF_le _ [97] _ (Sli.lit w2 ([97].map by8) 5 (1, 2) (by decide)) (by decide)).mono ?_
  rintro e w3 ⟨v3, rfl, hb3, ho3⟩
  obtain ⟨ao, ac, rfl, -, -⟩ := own_form ho3
  rw [hfa] at ho3 ⊢
  replace hb3 := Below.call (Below.al hb2 _) hb3
  clear hb2
  go_wp2_with fail
  refine (putF_le _ [98] _ (Sli.lit w3 ([98].map by8) 5 (1, 2) (by decide)) (by decide)).mono ?_
  rintro e w4 ⟨v4, rfl, hb4, ho4⟩
  obtain ⟨bo, bc, rfl, -, -⟩ := own_form ho4
  rw [hfb] at ho4 ⊢
  have hBa := ho3.bts.keep (Below.call (Below.al (Below.refl _ _) _) hb4)
  have hBb := ho4.bts
  replace hb4 := Below.call (Below.al hb3 _) hb4
  clear hb3 ho3 ho4
  generalize hfA : Fr.frame Fr.ck4 [97] = fa at *
  generalize hfB : Fr.frame Fr.ck4 [98] = fb at *
  go_wp2_with (first
    | (at_builtin; refine wpList_appB (w4.alloc (.cells #[] 5)) rfl _ _ rfl w4.heap.size (own_lit0 w4) (hBa.keep (Below.al (Below.refl _ _) _)) rfl rfl (by simp [hfa]) (by simp) ?_; intro ao5 ac5 w5 ho5 hg5 hb5; rw [List.length_nil, Nat.zero_add, hfa, List.nil_append] at ho5)
    | (at_builtin; refine wpList_appB w5 rfl _ _ rfl w4.heap.size ho5 (hBb.keep ((Below.al (Below.refl _ _) _).trans hb5)) rfl rfl (by simp [hfa, hfb]) (Nat.le_trans (by simp) hb5.size) ?_; intro ao6 ac6 w6 ho6 hg6 hb6; rw [show fa.length + fb.length = 14 from by omega] at ho6)
    | (at_builtin; refine wpList_appB (w6.alloc (.cells #[.int .u8 90, .int .u8 0] 5)) rfl _ _ rfl w4.heap.size (ho6.keep (Below.al (Below.refl _ _) _)) (lit_bts w6 [90, 0] w6.heap.size rfl (by decide)) rfl rfl (by simp [hfa, hfb]) (by have := hb5.size; have := hb6.size; simp at *; omega) ?_; intro ao7 ac7 w7 ho7 hg7 hb7; rw [show (fa ++ fb).length + [(90 : UInt8), 0].length = 16 from by simp [hfa, hfb]] at ho7))
  have b47 : Below w.heap.size w w7 := Below.call hb4 (((((Below.al (Below.refl _ _) _).trans hb5).trans hb6).alloc (by have := hb5.size; have := hb6.size; simp at *; omega) _).trans hb7)
  refine (scan_any _ (fa ++ fb ++ [90, 0]) _ ho7.bts (by simp [hfa, hfb])).mono ?_
  rintro e w8 ⟨v8, us8, rfl, hr8, hb8⟩
  rw [hsc] at hr8 ⊢
  obtain ⟨mo, mc, rfl, -, -⟩ := own_form hr8.own
  obtain ⟨hS, hP⟩ := hr8.sli
  have hlu : us8.length = 2 := hP.1
  obtain ⟨us, hus⟩ : ∃ us, us = us8 := ⟨_, rfl⟩
  obtain ⟨m0, f0, u0, rfl, -, c0, t0⟩ := Parts.at hS hP (i := 0) (by simp)
  obtain ⟨m1, f1, u1, e1, -, c1, t1⟩ := Parts.at hS hP (i := 1) (by simp)
  obtain ⟨rfl, rfl⟩ : m1 = m0 ∧ f1 = f0 := by simp at e1; exact ⟨e1.1.symm, e1.2.symm⟩
  have k0 := conv_str (l := [97]) t0
  have k1 := conv_str (l := [98]) t1
  obtain ⟨o0, q0, rfl, -, -, -⟩ := Bts.form t0
  obtain ⟨o1, q1, rfl, -, -, -⟩ := Bts.form t1
  replace k0 : (convert 22 9 (.slice o0 1 q0)).run Try.prog w8 = .ok (.string ⟨#[97]⟩) w8 := k0
  replace k1 : (convert 22 9 (.slice o1 1 q1)).run Try.prog w8 = .ok (.string ⟨#[98]⟩) w8 := k1
  have b8 := Below.call b47 hb8
  rw [Nat.add_zero] at c0
  clear hS hP t0 t1 hr8 hb8 ho5 ho6 ho7 hg5 hg6 hg7 hb5 hb6 hb7 hBa hBb hb4 b47 hlu hus hsc
  simp only [List.length_cons, List.length_nil, Nat.reduceAdd]
  go_wp2_with fail
  go_ret
  exact ⟨rfl, b8⟩
end Go.Proofs.Ytlcnjinabfbglaa
