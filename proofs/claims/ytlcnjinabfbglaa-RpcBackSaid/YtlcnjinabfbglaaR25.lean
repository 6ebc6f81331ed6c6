/- RpcBack. -/
import Derived.Test.YtlcnjinabfbglaaR24
import Derived.Deep.DeepCutAuto
import Derived.Deep.CutBlock
namespace Go.Proofs.Ytlcnjinabfbglaa
open Go.RowKit
theorem bytes_len (m : Rp.Msg) (h : Rp.may m = true) : (Rp.bytes m).length ≤ 300000 := by
  obtain ⟨-, -, h1, h2, h3, h4⟩ := Rp.may_spec m h
  have a1 := numsB_len (Rp.h1 m)
  have a2 := entsB_len m.ents h4
  have a3 := numsB_len m.peers
  have a4 := numsB_len (Rp.h3 m)
  have a5 := Pk.put_len m.peers.length
  have b1 : (Rp.h1 m).length = 9 := rfl
  have b2 : (Rp.h3 m).length = 3 := rfl
  unfold Rp.bytes Rp.head
  simp only [List.length_append]
  omega
theorem parE_none : parE none = 4 := rfl
theorem parE_some (m : Rp.Msg) : parE (some m) = 0 := rfl
theorem parE_more (m : Rp.Msg) (hn : m.N) (hm : Rp.may m = true) (r : List UInt8) (hr : r ≠ []) : parE (Rp.parse (Rp.bytes m ++ r)) = 4 := by
  have h := Rp.parse_more m hn hm r
  unfold parE
  rw [h]
  cases r with
  | nil => exact absurd rfl hr
  | cons x r => rfl
theorem beq_dec (m n : Rp.Msg) (hm : m.N) (hmm : Rp.may m = true) (hn : n.N) (hnm : Rp.may n = true) : (Rp.bytes m == Rp.bytes n) = decide (m = n) := by
  have h := Rp.bytes_inj m n hm hmm hn hnm
  by_cases e : m = n
  · rw [e]; simp
  · have e2 : ¬ Rp.bytes m = Rp.bytes n := fun x => e (h.1 x)
    simp [e, e2]
set_option maxRecDepth 100000 in
set_option maxHeartbeats 8000000 in
theorem rpcBack_any (x y : MV) (cut : Int) (v : Value) (b : List UInt8) (w : World) (hx : MvOk w x) (hy : MvOk w y) (hB : Bts w v b) : Calls Try.prog 11 #[msgV x, msgV y, .int .i64 cut, v] w fun r w' => r = .returned (.bool true) ∧ Below w.heap.size w w' := by
  obtain ⟨ax, hax, hsx⟩ := msg_agg x
  obtain ⟨ay, hay, hsy⟩ := msg_agg y
  have hxn := hx.n
  have hyn := hy.n
  have C39x := fun w h => great_any x w h
  have C39y := fun w h => great_any y w h
  have C44x := fun w h => may_any x w h
  have C44y := fun w h => may_any y w h
  have C40x := fun w h => msgPut_ok x w h
  have C40y := fun w h => msgPut_ok y w h
  have C47 := fun w h h' => msgSame_any x y w h h'
  rw [hax] at C39x C40x C44x C47
  rw [hay] at C39y C40y C44y C47
  rw [hax, hay]
  obtain ⟨ao, cap, rfl, -, -, -⟩ := hB.form
  have hal := Below.al (Below.al (Below.refl w.heap.size w) (.cells ax 62)) (.cells ay 62)
  have hMx : Mr ((w.alloc (.cells ax 62)).alloc (.cells ay 62)) w.heap.size ax := (show Mr (w.alloc (.cells ax 62)) w.heap.size ax from new_at _ _ _ rfl).kt (KT.below (Below.al (Below.refl _ _) _) _)
  have hMy : Mr ((w.alloc (.cells ax 62)).alloc (.cells ay 62)) (w.heap.size + 1) ay := new_at _ _ _ (by simp)
  have hx1 := hx.keep hal
  have hy1 := hy.keep hal
  have hB1 := hB.keep hal
  go_enter Try.func11, Try.ntmps11
  go_upto_region 1 with fail
  generalize (w.alloc (.cells ax 62)).alloc (.cells ay 62) = W0 at *
  go_wp2_with fail
  refine (known_any W0).mono ?_
  rintro r W1 ⟨rfl, hb⟩
  replace hx1 := hx1.keep hb
  replace hy1 := hy1.keep hb
  replace hB1 := hB1.keep hb
  replace hMx := hMx.kt (KT.below hb _)
  replace hMy := hMy.kt (KT.below hb _)
  replace hal := Below.call hal hb
  clear hb
  clear hx hy hB
  go_upto_region 3 with fail
  go_wp2_with (refine wpList_loadM rfl _ rfl hMx hsx rfl ?_)
  refine (C39x W1 hx1).mono ?_
  rintro r W2 ⟨g1, rfl, hb, -⟩
  replace hx1 := hx1.keep hb
  replace hy1 := hy1.keep hb
  replace hB1 := hB1.keep hb
  replace hMx := hMx.kt (KT.below hb _)
  replace hMy := hMy.kt (KT.below hb _)
  replace hal := Below.call hal hb
  clear hb
  cases g1 with
  | true => as_aux_lemma =>
    go_wp2_with fail
    go_ret
    exact ⟨rfl, hal⟩
  | false =>
  go_wp2_with (refine wpList_loadG (by rfl) _ rfl hMy hsy rfl ?_)
  refine (C39y W2 hy1).mono ?_
  rintro r W3 ⟨g2, rfl, hb, -⟩
  replace hx1 := hx1.keep hb
  replace hy1 := hy1.keep hb
  replace hB1 := hB1.keep hb
  replace hMx := hMx.kt (KT.below hb _)
  replace hMy := hMy.kt (KT.below hb _)
  replace hal := Below.call hal hb
  clear hb
  clear C39x C39y
  cases g2 with
  | true => as_aux_lemma =>
    go_wp2_with fail
    go_ret
    exact ⟨rfl, hal⟩
  | false =>
  by_cases h3 : (50 : Int) < (b.length : Int)
  · as_aux_lemma =>
    go_wp2_with fail
    go_ret
    exact ⟨rfl, hal⟩
  · have hd50 : decide ((50 : Int) < (b.length : Int)) = false := decide_eq_false h3
    go_wp2_with (refine wpList_loadG (by rfl) _ rfl hMx hsx rfl ?_)
    refine (C44x W3 hx1).mono ?_
    rintro r W4 ⟨rfl, hb⟩
    replace hx1 := hx1.keep hb
    replace hy1 := hy1.keep hb
    replace hB1 := hB1.keep hb
    replace hMx := hMx.kt (KT.below hb _)
    replace hMy := hMy.kt (KT.below hb _)
    replace hal := Below.call hal hb
    clear hb
    clear C44x
    cases hmx : Rp.may x.m with
    | false => as_aux_lemma =>
      go_wp2_with fail
      go_ret
      exact ⟨rfl, hal⟩
    | true =>
    go_wp2_with (refine wpList_loadG (by rfl) _ rfl hMy hsy rfl ?_)
    refine (C44y W4 hy1).mono ?_
    rintro r W5 ⟨rfl, hb⟩
    replace hx1 := hx1.keep hb
    replace hy1 := hy1.keep hb
    replace hB1 := hB1.keep hb
    replace hMx := hMx.kt (KT.below hb _)
    replace hMy := hMy.kt (KT.below hb _)
    replace hal := Below.call hal hb
    clear hb
    clear C44y
    cases hmy : Rp.may y.m with
    | false => as_aux_lemma =>
      go_wp2_with fail
      go_ret
      exact ⟨rfl, hal⟩
    | true =>
    have hL1 := bytes_len x.m hmx
    have hpx := Rp.parse_bytes x.m hxn hmx
    have hmore := parE_more x.m hxn hmx b
    have hcut := fun c => Rp.parse_cut x.m hxn hmx c
    have hbe := beq_dec x.m y.m hxn hmx hyn hmy
    replace C40x := fun w h => C40x w h hmx
    replace C40y := fun w h => C40y w h hmy
    clear hmx hmy hxn hyn
    generalize Rp.bytes x.m = L at *
    generalize Rp.bytes y.m = L2 at *
    have HPX := Lib.hid hpx
    have HMORE := Lib.hid hmore
    have HCUT := Lib.hid hcut
    have HBE := Lib.hid hbe
    clear hpx hmore hcut hbe
    go_upto_region 5 with fail
    go_wp2_with (refine wpList_loadM rfl _ rfl hMx hsx rfl ?_)
    refine (C40x W5 hx1).mono ?_
    rintro r W6 ⟨v1, rfl, hv1, hb⟩
    replace hv1 := OwnB.bts hv1
    replace hx1 := hx1.keep hb
    replace hy1 := hy1.keep hb
    replace hB1 := hB1.keep hb
    replace hMx := hMx.kt (KT.below hb _)
    replace hMy := hMy.kt (KT.below hb _)
    replace hal := Below.call hal hb
    clear hb
    clear C40x
    obtain ⟨o1, c1, rfl, hcp, -, -⟩ := hv1.form
    go_upto_region 6 with fail
    go_wp2_with (refine wpList_loadM rfl _ rfl hMy hsy rfl ?_)
    refine (C40y W6 hy1).mono ?_
    rintro r W7 ⟨v2, rfl, hv2, hb⟩
    replace hv2 := OwnB.bts hv2
    replace hx1 := hx1.keep hb
    replace hy1 := hy1.keep hb
    replace hB1 := hB1.keep hb
    replace hMx := hMx.kt (KT.below hb _)
    replace hMy := hMy.kt (KT.below hb _)
    replace hal := Below.call hal hb
    replace hv1 := hv1.keep hb
    clear hb
    clear C40y
    obtain ⟨o2, c2, rfl, -, -, -⟩ := hv2.form
    go_upto_region 7 with fail
    go_wp2_with fail
    refine (msgParse_any _ L W7 hv1 (by omega)).mono ?_
    intro r W8 hr
    rw [HPX.out] at hr
    obtain ⟨p, rfl, hp, hpm, hb⟩ := ParseM.par hr
    clear hr
    rw [parE_some]
    obtain ⟨ap, hap, hsp⟩ := msg_agg p
    have hone := msg_one p W8 hp ap hap
    rw [hap]
    replace hx1 := hx1.keep hb
    replace hy1 := hy1.keep hb
    replace hB1 := hB1.keep hb
    replace hMx := hMx.kt (KT.below hb _)
    replace hMy := hMy.kt (KT.below hb _)
    replace hal := Below.call hal hb
    replace hv1 := hv1.keep hb
    replace hv2 := hv2.keep hb
    clear hb
    have hb1 := Below.al (Below.refl W8.heap.size W8) (.cells zC 62)
    go_upto_region 8 with (refine wpList_storeA rfl _ _ rfl (show Mr (W8.alloc (.cells zC 62)) W8.heap.size zC from new_at _ _ _ rfl) hsp rfl rfl hone ?_; intro X2 hM1 hkX hb2)
    have hb := hb1.trans hb2
    clear hb1 hb2 hkX
    obtain ⟨N1, hN1⟩ : ∃ N1, W8.heap.size = N1 := ⟨_, rfl⟩
    replace hx1 := hx1.keep hb
    replace hy1 := hy1.keep hb
    replace hB1 := hB1.keep hb
    replace hMx := hMx.kt (KT.below hb _)
    replace hMy := hMy.kt (KT.below hb _)
    replace hal := Below.call hal hb
    replace hv1 := hv1.keep hb
    replace hv2 := hv2.keep hb
    replace hp := hp.keep hb
    clear hb
    rw [hN1] at hM1 ⊢
    clear hN1
    have hpq : decide (p.m = x.m) = true := by rw [hpm]; simp
    have CP : ∀ W, Below X2.heap.size X2 W → Calls Try.prog 47 #[.agg ap, .agg ax] W fun r w' => r = .returned (.bool true) ∧ Below W.heap.size W w' := fun W hW => by
      have := msgSame_any p x W (hp.keep hW) (hx1.keep hW)
      rw [hap, hax, hpq] at this
      exact this
    have D47 := fun W (hW : Below X2.heap.size X2 W) => C47 W (hx1.keep hW) (hy1.keep hW)
    have k1 := fun W (hW : Below X2.heap.size X2 W) => conv_str (hv1.keep hW)
    have k2 := fun W (hW : Below X2.heap.size X2 W) => conv_str (hv2.keep hW)
    have lx := fun W (hW : Below X2.heap.size X2 W) => hMx.kt (KT.below hW 62)
    have ly := fun W (hW : Below X2.heap.size X2 W) => hMy.kt (KT.below hW 62)
    have lp := fun W (hW : Below X2.heap.size X2 W) => hM1.kt (KT.below hW 62)
    have hseq := HBE.out
    obtain ⟨sx, hsame⟩ : ∃ s, decide (x.m = y.m) = s := ⟨_, rfl⟩
    simp only [hsame] at D47
    rw [hsame] at hseq
    clear hsame hp hpm hpq C47 hx1 hy1 hMx hMy hM1 hone hap hax hay HBE
    go_wp2_with fail
    refine wp_region_held_drew (S := fun w' => Below X2.heap.size X2 w') (by kernel_rfl) (Below.refl _ _).drew (fun h0 => ?_)
    refine wpAnyH_take (i := 0) (oi := { dst := _, op := _, type := _, pos := _, after := _, guard := _ }) (v := ?vq0) rfl (by kernel_rfl) (by kernel_rfl) (by kernel_rfl) (fun _ _ _ h => h) (Or.inl ⟨by rfl, ?yq0⟩) (by assumption) ?rq0; (case yq0 => intro w hSw; go_simp <;> with_reducible rfl); simp only [Act.put, List.setIfInBounds_toArray, List.set_cons_zero, List.set_cons_succ]
    refine wpAnyH_take (i := 1) (oi := { dst := _, op := _, type := _, pos := _, after := _, guard := _ }) (v := ?vq1) rfl (by kernel_rfl) (by kernel_rfl) (by kernel_rfl) (fun _ _ _ h => h) (Or.inl ⟨by rfl, ?yq1⟩) (by assumption) ?rq1; (case yq1 => intro w hSw; go_simp <;> with_reducible rfl); simp only [Act.put, List.setIfInBounds_toArray, List.set_cons_zero, List.set_cons_succ]
    refine wpAnyH_take (i := 2) (oi := { dst := _, op := _, type := _, pos := _, after := _, guard := _ }) (v := ?vq2) rfl (by kernel_rfl) (by kernel_rfl) (by kernel_rfl) (fun _ _ _ h => h) (Or.inl ⟨by rfl, ?yq2⟩) (by assumption) ?rq2; (case yq2 => intro w hSw; go_simp <;> with_reducible rfl); simp only [Act.put, List.setIfInBounds_toArray, List.set_cons_zero, List.set_cons_succ]
    refine wpAnyH_take (i := 3) (oi := { dst := _, op := _, type := _, pos := _, after := _, guard := _ }) (v := ?vq3) rfl (by kernel_rfl) (by kernel_rfl) (by kernel_rfl) (fun _ _ _ h => h) (Or.inl ⟨by rfl, ?yq3⟩) (by assumption) ?rq3; (case yq3 => intro w hSw; go_simp <;> with_reducible rfl); simp only [Act.put, List.setIfInBounds_toArray, List.set_cons_zero, List.set_cons_succ]
    refine wpAnyH_take (i := 4) (oi := { dst := _, op := _, type := _, pos := _, after := _, guard := _ }) (v := ?vq4) rfl (by kernel_rfl) (by kernel_rfl) (by kernel_rfl) (fun _ _ _ h => h) (Or.inl ⟨by rfl, ?yq4⟩) (by assumption) ?rq4; (case yq4 => intro w hSw; go_simp <;> with_reducible rfl); simp only [Act.put, List.setIfInBounds_toArray, List.set_cons_zero, List.set_cons_succ]
    refine wpAnyH_take (i := 5) (oi := { dst := _, op := _, type := _, pos := _, after := _, guard := _ }) (v := ?vq5) rfl (by kernel_rfl) (by kernel_rfl) (by kernel_rfl) (fun _ _ _ h => h) (Or.inl ⟨by rfl, ?yq5⟩) (by assumption) ?rq5; (case yq5 => intro w hSw; go_simp <;> with_reducible rfl); simp only [Act.put, List.setIfInBounds_toArray, List.set_cons_zero, List.set_cons_succ]
    refine wpAnyH_take (i := 6) (oi := { dst := _, op := _, type := _, pos := _, after := _, guard := _ }) (v := ?vq6) rfl (by kernel_rfl) (by kernel_rfl) (by kernel_rfl) (fun _ _ _ h => h) (Or.inl ⟨by rfl, ?yq6⟩) (by assumption) ?rq6; (case yq6 => intro w hSw; go_simp <;> with_reducible rfl); simp only [Act.put, List.setIfInBounds_toArray, List.set_cons_zero, List.set_cons_succ]
    refine wpAnyH_take (i := 7) (oi := { dst := _, op := _, type := _, pos := _, after := _, guard := _ }) (v := ?vq7) rfl (by kernel_rfl) (by kernel_rfl) (by kernel_rfl) (fun _ _ _ h => h) (Or.inl ⟨by rfl, ?yq7⟩) (by assumption) ?rq7; (case yq7 => intro w hSw; go_simp <;> with_reducible rfl); simp only [Act.put, List.setIfInBounds_toArray, List.set_cons_zero, List.set_cons_succ]
    refine wpAnyH_take (i := 8) (oi := { dst := _, op := _, type := _, pos := _, after := _, guard := _ }) (v := ?vq8) rfl (by kernel_rfl) (by kernel_rfl) (by kernel_rfl) (fun _ _ _ h => h) (Or.inl ⟨by rfl, ?yq8⟩) (by assumption) ?rq8; (case yq8 => intro w hSw; go_simp <;> with_reducible rfl); simp only [Act.put, List.setIfInBounds_toArray, List.set_cons_zero, List.set_cons_succ]
    refine wpAnyH_take (i := 9) (oi := { dst := _, op := _, type := _, pos := _, after := _, guard := _ }) (v := ?vq9) rfl (by kernel_rfl) (by kernel_rfl) (by kernel_rfl) (fun _ _ _ h => h) (Or.inl ⟨by rfl, ?yq9⟩) (by assumption) ?rq9; (case yq9 => intro w hSw; go_simp <;> with_reducible rfl); simp only [Act.put, List.setIfInBounds_toArray, List.set_cons_zero, List.set_cons_succ]
    refine wpAnyH_take (i := 10) (oi := { dst := _, op := _, type := _, pos := _, after := _, guard := _ }) (v := ?vq10) rfl (by kernel_rfl) (by kernel_rfl) (by kernel_rfl) (fun _ _ _ h => h) (Or.inl ⟨by rfl, ?yq10⟩) (by assumption) ?rq10; (case yq10 => intro w hSw; go_simp <;> with_reducible rfl); simp only [Act.put, List.setIfInBounds_toArray, List.set_cons_zero, List.set_cons_succ]
    refine wpAnyH_take (i := 11) (oi := { dst := _, op := _, type := _, pos := _, after := _, guard := _ }) (v := Value.agg ap) rfl (by kernel_rfl) (by kernel_rfl) (by kernel_rfl) (fun _ _ _ h => h) ?yq11 (by assumption) ?rq11; (case yq11 => exact yieldsIf_loadM (by rfl) _ rfl rfl lp hsp); simp only [Act.put, List.setIfInBounds_toArray, List.set_cons_zero, List.set_cons_succ]
    refine wpAnyH_take (i := 12) (oi := { dst := _, op := _, type := _, pos := _, after := _, guard := _ }) (v := Value.agg ax) rfl (by kernel_rfl) (by kernel_rfl) (by kernel_rfl) (fun _ _ _ h => h) ?yq12 (by assumption) ?rq12; (case yq12 => exact yieldsIf_loadM (by rfl) _ rfl rfl lx hsx); simp only [Act.put, List.setIfInBounds_toArray, List.set_cons_zero, List.set_cons_succ]
    refine wpAnyH_ready (rs := [13]) (by kernel_rfl) (by simp) ?_
    refine AllReadyH.cons (o := { dst := _, op := _, type := _, pos := _, after := _, guard := _ }) rfl (fun K hK => ?_) AllReadyH.nil
    rw [if_pos (show Region.wanted _ _ = true from rfl)]
    go_simp
    refine (CP _ h0).mono ?_
    rintro e x1 ⟨rfl, hc1⟩
    have hd1 : Below X2.heap.size X2 x1 := Below.call h0 hc1
    refine hK.out _ _ hd1 (fun _ => ?_)
    clear hK K
    refine wpAnyH_take (i := 14) (oi := { dst := _, op := _, type := _, pos := _, after := _, guard := _ }) (v := ?vq14) rfl (by kernel_rfl) (by kernel_rfl) (by kernel_rfl) (fun _ _ _ h => h) (Or.inl ⟨by rfl, ?yq14⟩) (by assumption) ?rq14; (case yq14 => intro w hSw; go_simp <;> with_reducible rfl); simp only [Act.put, List.setIfInBounds_toArray, List.set_cons_zero, List.set_cons_succ]
    refine wpAnyH_take (i := 15) (oi := { dst := _, op := _, type := _, pos := _, after := _, guard := _ }) (v := ?vq15) rfl (by kernel_rfl) (by kernel_rfl) (by kernel_rfl) (fun _ _ _ h => h) (Or.inl ⟨by rfl, ?yq15⟩) (by assumption) ?rq15; (case yq15 => intro w hSw; go_simp <;> with_reducible rfl); simp only [Act.put, List.setIfInBounds_toArray, List.set_cons_zero, List.set_cons_succ]
    refine wpAnyH_take (i := 16) (oi := { dst := _, op := _, type := _, pos := _, after := _, guard := _ }) (v := ?vq16) rfl (by kernel_rfl) (by kernel_rfl) (by kernel_rfl) (fun _ _ _ h => h) (Or.inl ⟨by rfl, ?yq16⟩) (by assumption) ?rq16; (case yq16 => intro w hSw; go_simp <;> with_reducible rfl); simp only [Act.put, List.setIfInBounds_toArray, List.set_cons_zero, List.set_cons_succ]
    refine wpAnyH_take (i := 17) (oi := { dst := _, op := _, type := _, pos := _, after := _, guard := _ }) (v := ?vq17) rfl (by kernel_rfl) (by kernel_rfl) (by kernel_rfl) (fun _ _ _ h => h) (Or.inl ⟨by rfl, ?yq17⟩) (by assumption) ?rq17; (case yq17 => intro w hSw; go_simp <;> with_reducible rfl); simp only [Act.put, List.setIfInBounds_toArray, List.set_cons_zero, List.set_cons_succ]
    refine wpAnyH_take (i := 18) (oi := { dst := _, op := _, type := _, pos := _, after := _, guard := _ }) (v := ?vq18) rfl (by kernel_rfl) (by kernel_rfl) (by kernel_rfl) (fun _ _ _ h => h) (Or.inl ⟨by rfl, ?yq18⟩) (by assumption) ?rq18; (case yq18 => intro w hSw; have dd := k1 w hSw; go_simp <;> with_reducible rfl); simp only [Act.put, List.setIfInBounds_toArray, List.set_cons_zero, List.set_cons_succ]
    refine wpAnyH_take (i := 19) (oi := { dst := _, op := _, type := _, pos := _, after := _, guard := _ }) (v := ?vq19) rfl (by kernel_rfl) (by kernel_rfl) (by kernel_rfl) (fun _ _ _ h => h) (Or.inl ⟨by rfl, ?yq19⟩) (by assumption) ?rq19; (case yq19 => intro w hSw; go_simp <;> with_reducible rfl); simp only [Act.put, List.setIfInBounds_toArray, List.set_cons_zero, List.set_cons_succ]
    refine wpAnyH_take (i := 20) (oi := { dst := _, op := _, type := _, pos := _, after := _, guard := _ }) (v := ?vq20) rfl (by kernel_rfl) (by kernel_rfl) (by kernel_rfl) (fun _ _ _ h => h) (Or.inl ⟨by rfl, ?yq20⟩) (by assumption) ?rq20; (case yq20 => intro w hSw; have dd := k2 w hSw; go_simp <;> with_reducible rfl); simp only [Act.put, List.setIfInBounds_toArray, List.set_cons_zero, List.set_cons_succ]
    refine wpAnyH_take (i := 21) (oi := { dst := _, op := _, type := _, pos := _, after := _, guard := _ }) (v := ?vq21) rfl (by kernel_rfl) (by kernel_rfl) (by kernel_rfl) (fun _ _ _ h => h) (Or.inl ⟨by rfl, ?yq21⟩) (by assumption) ?rq21; (case yq21 => intro w hSw; go_simp <;> with_reducible rfl); simp only [Act.put, List.setIfInBounds_toArray, List.set_cons_zero, List.set_cons_succ]
    refine wpAnyH_take (i := 22) (oi := { dst := _, op := _, type := _, pos := _, after := _, guard := _ }) (v := Value.agg ax) rfl (by kernel_rfl) (by kernel_rfl) (by kernel_rfl) (fun _ _ _ h => h) ?yq22 (by assumption) ?rq22; (case yq22 => exact yieldsIf_loadM (by rfl) _ rfl rfl lx hsx); simp only [Act.put, List.setIfInBounds_toArray, List.set_cons_zero, List.set_cons_succ]
    refine wpAnyH_take (i := 23) (oi := { dst := _, op := _, type := _, pos := _, after := _, guard := _ }) (v := Value.agg ay) rfl (by kernel_rfl) (by kernel_rfl) (by kernel_rfl) (fun _ _ _ h => h) ?yq23 (by assumption) ?rq23; (case yq23 => exact yieldsIf_loadM (by rfl) _ rfl rfl ly hsy); simp only [Act.put, List.setIfInBounds_toArray, List.set_cons_zero, List.set_cons_succ]
    refine wpAnyH_ready (rs := [24]) (by kernel_rfl) (by simp) ?_
    refine AllReadyH.cons (o := { dst := _, op := _, type := _, pos := _, after := _, guard := _ }) rfl (fun K hK => ?_) AllReadyH.nil
    rw [if_pos (show Region.wanted _ _ = true from rfl)]
    go_simp
    refine (D47 _ hd1).mono ?_
    rintro e x2 ⟨rfl, hc2⟩
    have hd2 : Below X2.heap.size X2 x2 := Below.call hd1 hc2
    refine hK.out _ _ hd2 (fun _ => ?_)
    clear hK K
    refine wpAnyH_take (i := 25) (oi := { dst := _, op := _, type := _, pos := _, after := _, guard := _ }) (v := ?vq25) rfl (by kernel_rfl) (by kernel_rfl) (by kernel_rfl) (fun _ _ _ h => h) (Or.inl ⟨by rfl, ?yq25⟩) (by assumption) ?rq25; (case yq25 => intro w hSw; go_simp <;> with_reducible rfl); simp only [Act.put, List.setIfInBounds_toArray, List.set_cons_zero, List.set_cons_succ]
    refine wpAnyH_take (i := 26) (oi := { dst := _, op := _, type := _, pos := _, after := _, guard := _ }) (v := ?vq26) rfl (by kernel_rfl) (by kernel_rfl) (by kernel_rfl) (fun _ _ _ h => h) (Or.inl ⟨by rfl, ?yq26⟩) (by assumption) ?rq26; (case yq26 => intro w hSw; go_simp <;> with_reducible rfl); simp only [Act.put, List.setIfInBounds_toArray, List.set_cons_zero, List.set_cons_succ]
    refine wpAnyH_done (by kernel_rfl) ?_ _
    have hal5 := hal.trans (hd2.mono hal.size)
    have hB5 := hB1.keep hd2
    have hv5 := hv1.keep hd2
    clear k1 k2 lx ly lp D47 CP hd1 hseq hv1 hv2 hB1 hal h0 hd2
    have hsm : L.length + b.length ≤ 1000000 := by omega
    obtain ⟨bl, hbl⟩ : ∃ bl, b.length = bl := ⟨_, rfl⟩
    obtain ⟨nl, hnl⟩ : ∃ nl, L.length = nl := ⟨_, rfl⟩
    have HBL := Lib.hid hbl
    have HNL := Lib.hid hnl
    have HSM := Lib.hid hsm
    rw [hbl] at hB5 ⊢
    rw [hnl] at hv5 hcp ⊢
    have hnl2 : nl ≤ 300000 := by omega
    have hbl2 : bl ≤ 50 := by omega
    clear hbl hnl hsm hL1 h3 hd50
    have hal6 := Below.al (Below.refl x2.heap.size x2) (.cells #[] 5)
    have hv6 := hv5.keep hal6
    go_upto_region 11 with (first
      | (at_builtin; refine wpList_appB (x2.alloc (.cells #[] 5)) rfl _ _ rfl x2.heap.size (own_lit0 x2) hv6 rfl rfl (by simp only [List.length_nil]; have := HSM.out; omega) (by simp) ?_; intro ao3 ac3 Wa ho3 hg3 hb3; rw [show ([] : List UInt8).length + L.length = nl from by rw [HNL.out]; simp] at ho3 ⊢; rw [List.nil_append] at ho3; have hba := ((Below.refl x2.heap.size x2).alloc (Nat.le_refl _) (.cells #[] 5)).trans hb3; have hBa := hB5.keep hba)
      | (at_builtin; refine wpList_appB Wa rfl _ _ rfl x2.heap.size ho3 hBa rfl rfl HSM.out hba.size ?_; intro ao4 ac4 Wb ho4 hg4 hb4; rw [HNL.out, HBL.out] at ho4 ⊢; have hbb := hba.trans hb4)
      | (go_at_call 42; refine (msgParse_any _ (L ++ b) Wb (OwnB.bts ho4) (by rw [List.length_append]; exact HSM.out)).mono ?_; intro r W9 hr; obtain ⟨p2, rfl, -, -, hb9⟩ := ParseM.par hr; clear hr; have hb29 := Below.call hbb hb9; obtain ⟨E, hE⟩ : ∃ E, parE (Rp.parse (L ++ b)) = E := ⟨_, rfl⟩; rw [hE]))
    have hv9 := hv5.keep hb29
    have hal9 := Below.trans hal5 (hb29.mono hal5.size)
    clear hv5 hv6 hB5 hBa hba hbb hb3 hb4 hb9 ho3 ho4 hg3 hg4 hal6 hb29 hal5
    have hcase : (E = 0 ∧ bl = 0) ∨ (E = 4 ∧ 0 < bl) := by
      by_cases hb0 : b = []
      · refine .inl ⟨?_, ?_⟩
        · rw [← hE, hb0, List.append_nil, HPX.out]; rfl
        · rw [← HBL.out, hb0]; rfl
      · refine .inr ⟨by rw [← hE]; exact HMORE.out hb0, ?_⟩
        rw [← HBL.out]
        exact List.length_pos_iff.2 hb0
    go_cut [94] (fun u94 wx => u94 = .bool false ∧ wx = W9)
    case first => as_aux_lemma =>
      rcases hcase with ⟨rfl, rfl⟩ | ⟨rfl, hb0⟩
      · go_wp2_with fail
        go_meet
        exact ⟨rfl, rfl⟩
      · have hz1 : ((bl : Int) == 0) = false := by rw [beq_eq_false_iff_ne]; omega
        go_wp2_with fail
        go_meet
        exact ⟨rfl, rfl⟩
    case rest =>
    obtain ⟨rfl, rfl⟩ := hcut
    clear hcase hE
    by_cases hneg : cut < 0
    · as_aux_lemma =>
      go_wp2_with fail
      go_ret
      exact ⟨rfl, hal9⟩
    · obtain ⟨cn, rfl⟩ : ∃ cn : Nat, cut = (cn : Int) := ⟨cut.toNat, by omega⟩
      by_cases hge : nl ≤ cn
      · as_aux_lemma =>
        have hge' : (nl : Int) ≤ (cn : Int) := by omega
        go_wp2_with fail
        go_ret
        exact ⟨rfl, hal9⟩
      · have hge' : ¬ (nl : Int) ≤ (cn : Int) := by omega
        obtain ⟨V, hV, hBV⟩ := cut_h (P := Try.prog) Try.underlying22 Try.size5 o1 nl c1 cn (by omega)
        have hT : Bts wc V (L.take cn) := Bts.take (hBV wc _ hv9 (by rw [List.length_map, HNL.out]; omega))
        obtain ⟨ao5, c5, rfl, -, -, -⟩ := hT.form
        have hpn := HCUT.out cn (by rw [HNL.out]; omega)
        have hlt : (L.take cn).length ≤ 1000000 := by rw [List.length_take, HNL.out]; omega
        obtain ⟨tl, htl⟩ : ∃ tl, (L.take cn).length = tl := ⟨_, rfl⟩
        have hC := msgParse_any _ (L.take cn) wc hT hlt
        rw [htl] at hV hC
        rw [hpn] at hC
        clear htl hT hBV hpn hlt hge hneg hv9
        go_wp2_with fail
        refine hC.mono ?_
        intro r W10 hr
        obtain ⟨p3, rfl, -, -, hb10⟩ := ParseM.par hr
        rw [parE_none]
        have hal10 := Below.trans hal9 (hb10.mono hal9.size)
        clear hr hC hV hal9 hb10
        go_wp2_with fail
        go_ret
        exact ⟨rfl, hal10⟩
end Go.Proofs.Ytlcnjinabfbglaa
