/- RpcPuts. -/
import Derived.Test.YtlcnjinabfbglaaR13
import Derived.Test.YtlcnjinabfbglaaR21
import Derived.Test.YtlcnjinabfbglaaR23
namespace Go.Proofs.Ytlcnjinabfbglaa
open Go.RowKit
theorem msg_agg (x : MV) : ∃ a : Array Value, msgV x = .agg a ∧ a.size = 14 := ⟨_, rfl, rfl⟩
/-- whatever the message is -/
def putL (m : Rp.Msg) : List UInt8 := if Rp.may m = true then Rp.bytes m else []
def putE (m : Rp.Msg) : Int := if Rp.may m = true then 0 else 2
def PutM (w w' : World) (m : Rp.Msg) (r : Ending) : Prop := ∃ v, r = .returned (.tuple #[v, .int .i64 (putE m)]) ∧ Bts w' v (putL m) ∧ Below w.heap.size w w'
theorem put_u (x : MV) (w : World) (h : MvOk w x) : Calls Try.prog 40 #[msgV x] w fun r w' => PutM w w' x.m r := by
  cases hm : Rp.may x.m with
  | false =>
    refine (msgPut_bad x w h hm).mono ?_
    rintro r w' ⟨rfl, hb⟩
    have e1 : putE x.m = 2 := by unfold putE; rw [hm]; rfl
    have e2 : putL x.m = [] := by unfold putL; rw [hm]; rfl
    exact ⟨_, by rw [e1], by rw [e2]; exact Sli.nil _, hb⟩
  | true =>
    refine (msgPut_ok x w h hm).mono ?_
    rintro r w' ⟨v, rfl, hO, hb⟩
    have e1 : putE x.m = 0 := by unfold putE; rw [hm]; rfl
    have e2 : putL x.m = Rp.bytes x.m := by unfold putL; rw [hm]; rfl
    exact ⟨v, by rw [e1], by rw [e2]; exact hO.bts, hb⟩
theorem rput_u (x : MV) (w : World) (h : MvOk w x) : Calls Try.prog 41 #[msgV x] w fun r w' => PutM w w' x.m r := by
  cases hm : Rp.may x.m with
  | false =>
    refine (refMsgPut_bad x w h hm).mono ?_
    rintro r w' ⟨rfl, hb⟩
    have e1 : putE x.m = 2 := by unfold putE; rw [hm]; rfl
    have e2 : putL x.m = [] := by unfold putL; rw [hm]; rfl
    exact ⟨_, by rw [e1], by rw [e2]; exact Sli.nil _, hb⟩
  | true =>
    refine (refMsgPut_ok x w h hm).mono ?_
    rintro r w' ⟨v, rfl, hO, hb⟩
    have e1 : putE x.m = 0 := by unfold putE; rw [hm]; rfl
    have e2 : putL x.m = Rp.bytes x.m := by unfold putL; rw [hm]; rfl
    exact ⟨v, by rw [e1], by rw [e2]; exact hO.bts, hb⟩
def m0 : Rp.Msg := ⟨0, 0, 0, 0, false, false, 0, 0, 0, [], [], 0, 0, []⟩
theorem m0_N : m0.N := ⟨by decide, by decide, by decide, by decide, by decide, by decide, by decide, by decide, by simp [m0], by simp [m0]⟩
def parE (R : Option Rp.Msg) : Int := if R.isSome then 0 else 4
def ParM (w w' : World) (R : Option Rp.Msg) (r : Ending) : Prop := ∃ x : MV, r = .returned (.tuple #[msgV x, .int .i64 (parE R)]) ∧ MvOk w' x ∧ x.m = R.getD m0 ∧ Below w.heap.size w w'
theorem ParseM.par {w w' : World} {R : Option Rp.Msg} {r : Ending} (h : ParseM w.heap.size w w' R r) : ParM w w' R r := by
  obtain ⟨hb, h⟩ := h
  cases R with
  | none =>
    simp only at h
    exact ⟨bare m0, h, bare_ok w' m0 rfl rfl rfl m0_N (by decide) (by decide), rfl, hb⟩
  | some m =>
    obtain ⟨x, hx, hok, hr⟩ := h
    exact ⟨x, hr, hok, hx, hb⟩
/-- a message is stored, whatever its cells -/
theorem wpList_storeA {W : World} {ops : Array Oper} {rest : List Oper} {o : Oper} {a : Act} {Q : Exit → Act → World → Prop} (hgd : o.guard = none) (x y : Operand) (ho : o.op = .store 62 x y) {R : Nat} (h : Mr W R zC) {cs : Array Value} (hs : cs.size = 14)
    (hx : a.eval x = .pointer (some ⟨R, 0, none⟩)) (hy : a.eval y = .agg cs) (h1 : cs.all (·.oneCell') = true)
    (hK : ∀ X, Mr X R cs → (∀ T : TypeId, T ≠ 62 → KT T W X) → Below R W X → wpList Try.prog ops Q rest (a.put o.dst undef) X) : wpList Try.prog ops Q (o :: rest) a W := by
  obtain ⟨l⟩ := cs
  match l, hs with
  | [u0, u1, u2, u3, u4, u5, u6, u7, u8, u9, u10, u11, u12, u13], _ => exact wpList_storeM hgd x y ho h hx hy h1 hK
theorem wpList_loadG {W : World} {ops : Array Oper} {rest : List Oper} {o : Oper} {a : Act} {Q : Exit → Act → World → Prop} (hw : Region.wanted o (yielded ops a.tmps) = true) (x : Operand) (ho : o.op = .load 62 x) {R : Nat} {cs : Array Value} (h : Mr W R cs) (hs : cs.size = 14)
    (hx : a.eval x = .pointer (some ⟨R, 0, none⟩)) (hK : wpList Try.prog ops Q rest (a.put o.dst (.agg cs)) W) : wpList Try.prog ops Q (o :: rest) a W := by
  unfold wpList
  rw [if_pos hw]
  refine .inl (wp_load_mid 62 x ho R 0 hx cs.toList _ (fun j v hj => ?_) Try.underlying62 rfl ?_ (by simpa using hK))
  · rw [cell_of_row W R _ cs 62 (0, 0) h, Nat.zero_add]
    simpa using hj
  · rw [Try.size62, Array.length_toList, hs]
theorem yieldsIf_loadM {ops : Array Oper} {S : World → Prop} {op : Oper} {a : Act} (hw : Region.wanted op (yielded ops a.tmps) = true) (x : Operand) (ho : op.op = .load 62 x) {R : Nat} {cs : Array Value} (hx : a.eval x = .pointer (some ⟨R, 0, none⟩)) (hS : ∀ w, S w → Mr w R cs) (hs : cs.size = 14) : YieldsIf Try.prog ops S op (.agg cs) a := by
  have := yieldsIf_load_mid (P := Try.prog) hw 62 x ho R 0 hx cs.toList _ (fun w hw j v hj => by rw [cell_of_row w R _ cs 62 (0, 0) (hS w hw), Nat.zero_add]; simpa using hj) Try.underlying62 rfl (by rw [Try.size62, Array.length_toList, hs])
  simpa using this
theorem msg_one (x : MV) (w : World) (h : MvOk w x) (a : Array Value) (ha : msgV x = .agg a) : a.all (·.oneCell') = true := by
  obtain ⟨eo, ec, he, -⟩ := h.ents.form
  obtain ⟨po, pc, hp, -⟩ := h.peers.form
  obtain ⟨io, ic, hi, -⟩ := h.image.form
  obtain rfl := Value.agg.inj ha
  rw [he, hp, hi]
  simp [Value.oneCell']
set_option maxRecDepth 100000 in
set_option maxHeartbeats 8000000 in
theorem rpcPuts_any (x y : MV) (v : Value) (b : List UInt8) (w : World) (hx : MvOk w x) (hy : MvOk w y) (hB : Bts w v b) : Calls Try.prog 10 #[msgV x, msgV y, v] w fun r w' => r = .returned (.bool true) ∧ Below w.heap.size w w' := by
  obtain ⟨ax, hax, hsx⟩ := msg_agg x
  obtain ⟨ay, hay, hsy⟩ := msg_agg y
  have C39x := fun w h => great_any x w h
  have C39y := fun w h => great_any y w h
  have C40 := fun w h => put_u x w h
  have C41 := fun w h => rput_u x w h
  have C44 := fun w h => may_any x w h
  have C45 := fun w h => refMay_any x w h
  have C47 := fun w h h' => msgSame_any x y w h h'
  have C46 := fun w h h' => refMsgSame_any x y w h h'
  rw [hax] at C39x C40 C41 C44 C45 C46 C47
  rw [hay] at C39y C46 C47
  rw [hax, hay]
  obtain ⟨ao, cap, rfl, -, -, -⟩ := hB.form
  have hal := Below.al (Below.al (Below.refl w.heap.size w) (.cells ax 62)) (.cells ay 62)
  have hMx : Mr ((w.alloc (.cells ax 62)).alloc (.cells ay 62)) w.heap.size ax := (show Mr (w.alloc (.cells ax 62)) w.heap.size ax from new_at _ _ _ rfl).kt (KT.below (Below.al (Below.refl _ _) _) _)
  have hMy : Mr ((w.alloc (.cells ax 62)).alloc (.cells ay 62)) (w.heap.size + 1) ay := new_at _ _ _ (by simp)
  have hx1 := hx.keep hal
  have hy1 := hy.keep hal
  have hB1 := hB.keep hal
  go_enter Try.func10, Try.ntmps10
  go_upto_region 1 with fail
  generalize (w.alloc (.cells ax 62)).alloc (.cells ay 62) = W0 at *
  go_wp2_with fail
  refine (known_any W0).mono ?_
  rintro r W1 ⟨rfl, hb⟩
  replace hx1 := hx1.keep hb
  replace hy1 := hy1.keep hb
  replace hB1 := hB1.keep hb
  replace hMx := hMx.kt (KT.below hb _)
  replace hMy := hMy.kt (KT.below hb _)
  replace hal := Below.call hal hb
  clear hb hx hy hB
  go_upto_region 3 with fail
  go_wp2_with (refine wpList_loadM rfl _ rfl hMx hsx rfl ?_)
  refine (C39x W1 hx1).mono ?_
  rintro r W2 ⟨g1, rfl, hb, -⟩
  replace hx1 := hx1.keep hb
  replace hy1 := hy1.keep hb
  replace hB1 := hB1.keep hb
  replace hMx := hMx.kt (KT.below hb _)
  replace hMy := hMy.kt (KT.below hb _)
  replace hal := Below.call hal hb
  clear hb
  cases g1 with
  | true => as_aux_lemma =>
    go_wp2_with fail
    go_ret
    exact ⟨rfl, hal⟩
  | false =>
  go_wp2_with (refine wpList_loadG (by rfl) _ rfl hMy hsy rfl ?_)
  refine (C39y W2 hy1).mono ?_
  rintro r W3 ⟨g2, rfl, hb, -⟩
  replace hx1 := hx1.keep hb
  replace hy1 := hy1.keep hb
  replace hB1 := hB1.keep hb
  replace hMx := hMx.kt (KT.below hb _)
  replace hMy := hMy.kt (KT.below hb _)
  replace hal := Below.call hal hb
  clear hb C39x C39y
  cases g2 with
  | true => as_aux_lemma =>
    go_wp2_with fail
    go_ret
    exact ⟨rfl, hal⟩
  | false =>
  by_cases h3 : (3000 : Int) < (b.length : Int)
  · as_aux_lemma =>
    go_wp2_with fail
    go_ret
    exact ⟨rfl, hal⟩
  · have hl : b.length ≤ 1000000 := by omega
    go_upto_region 5 with fail
    go_wp2_with (refine wpList_loadM rfl _ rfl hMx hsx rfl ?_)
    refine (C40 W3 hx1).mono ?_
    rintro r W4 ⟨v1, rfl, hv1, hb⟩
    replace hx1 := hx1.keep hb
    replace hy1 := hy1.keep hb
    replace hB1 := hB1.keep hb
    replace hMx := hMx.kt (KT.below hb _)
    replace hMy := hMy.kt (KT.below hb _)
    replace hal := Below.call hal hb
    clear hb C40
    obtain ⟨o1, c1, rfl, -, -, -⟩ := hv1.form
    go_upto_region 6 with fail
    go_wp2_with (refine wpList_loadM rfl _ rfl hMx hsx rfl ?_)
    refine (C41 W4 hx1).mono ?_
    rintro r W5 ⟨v2, rfl, hv2, hb⟩
    replace hx1 := hx1.keep hb
    replace hy1 := hy1.keep hb
    replace hB1 := hB1.keep hb
    replace hMx := hMx.kt (KT.below hb _)
    replace hMy := hMy.kt (KT.below hb _)
    replace hal := Below.call hal hb
    replace hv1 := hv1.keep hb
    clear hb C41
    obtain ⟨o2, c2, rfl, -, -, -⟩ := hv2.form
    generalize putL x.m = L at *
    generalize putE x.m = E at *
    go_upto_region 7 with fail
    go_wp2_with fail
    refine (msgParse_any _ b W5 hB1 hl).mono ?_
    intro r W6 hr
    obtain ⟨p, rfl, hp, hpm, hb⟩ := ParseM.par hr
    clear hr
    obtain ⟨ap, hap, hsp⟩ := msg_agg p
    have hone := msg_one p W6 hp ap hap
    rw [hap]
    replace hx1 := hx1.keep hb
    replace hy1 := hy1.keep hb
    replace hB1 := hB1.keep hb
    replace hMx := hMx.kt (KT.below hb _)
    replace hMy := hMy.kt (KT.below hb _)
    replace hal := Below.call hal hb
    replace hv1 := hv1.keep hb
    replace hv2 := hv2.keep hb
    clear hb
    have hb1 := Below.al (Below.refl W6.heap.size W6) (.cells zC 62)
    go_upto_region 8 with (refine wpList_storeA rfl _ _ rfl (show Mr (W6.alloc (.cells zC 62)) W6.heap.size zC from new_at _ _ _ rfl) hsp rfl rfl hone ?_; intro X1 hM1 hkX hb2)
    have hb := hb1.trans hb2
    clear hb1 hb2 hkX
    obtain ⟨N1, hN1⟩ : ∃ N1, W6.heap.size = N1 := ⟨_, rfl⟩
    replace hx1 := hx1.keep hb
    replace hy1 := hy1.keep hb
    replace hB1 := hB1.keep hb
    replace hMx := hMx.kt (KT.below hb _)
    replace hMy := hMy.kt (KT.below hb _)
    replace hal := Below.call hal hb
    replace hv1 := hv1.keep hb
    replace hv2 := hv2.keep hb
    replace hp := hp.keep hb
    clear hb
    rw [hN1] at hM1 ⊢
    clear hN1
    go_wp2_with fail
    refine (refMsgParse_any _ b X1 hB1 hl).mono ?_
    intro r W7 hr
    rw [Rp.refParse_eq] at hr
    obtain ⟨q, rfl, hq, hqm, hb⟩ := ParseM.par hr
    clear hr
    obtain ⟨aq, haq, hsq⟩ := msg_agg q
    have hone2 := msg_one q W7 hq aq haq
    rw [haq]
    replace hx1 := hx1.keep hb
    replace hy1 := hy1.keep hb
    replace hMx := hMx.kt (KT.below hb _)
    replace hMy := hMy.kt (KT.below hb _)
    replace hM1 := hM1.kt (KT.below hb _)
    replace hal := Below.call hal hb
    replace hv1 := hv1.keep hb
    replace hv2 := hv2.keep hb
    replace hp := hp.keep hb
    clear hb hB1
    have hb1 := Below.al (Below.refl W7.heap.size W7) (.cells zC 62)
    go_upto_region 9 with (refine wpList_storeA rfl _ _ rfl (show Mr (W7.alloc (.cells zC 62)) W7.heap.size zC from new_at _ _ _ rfl) hsq rfl rfl hone2 ?_; intro X2 hM2 hkX hb2)
    have hb := hb1.trans hb2
    clear hb1 hb2 hkX
    obtain ⟨N2, hN2⟩ : ∃ N2, W7.heap.size = N2 := ⟨_, rfl⟩
    replace hx1 := hx1.keep hb
    replace hy1 := hy1.keep hb
    replace hMx := hMx.kt (KT.below hb _)
    replace hMy := hMy.kt (KT.below hb _)
    replace hM1 := hM1.kt (KT.below hb _)
    replace hal := Below.call hal hb
    replace hv1 := hv1.keep hb
    replace hv2 := hv2.keep hb
    replace hp := hp.keep hb
    replace hq := hq.keep hb
    clear hb
    rw [hN2] at hM2 ⊢
    clear hN2
    have hpq : decide (p.m = q.m) = true := by rw [hpm, hqm]; simp
    have CP : ∀ W, Below X2.heap.size X2 W → Calls Try.prog 46 #[.agg ap, .agg aq] W fun r w' => r = .returned (.bool true) ∧ Below W.heap.size W w' := fun W hW => by
      have := refMsgSame_any p q W (hp.keep hW) (hq.keep hW)
      rw [hap, haq, hpq] at this
      exact this
    have D44 := fun W (hW : Below X2.heap.size X2 W) => C44 W (hx1.keep hW)
    have D45 := fun W (hW : Below X2.heap.size X2 W) => C45 W (hx1.keep hW)
    have D47 := fun W (hW : Below X2.heap.size X2 W) => C47 W (hx1.keep hW) (hy1.keep hW)
    have D46 := fun W (hW : Below X2.heap.size X2 W) => C46 W (hx1.keep hW) (hy1.keep hW)
    have k1 := fun W (hW : Below X2.heap.size X2 W) => conv_str (hv1.keep hW)
    have k2 := fun W (hW : Below X2.heap.size X2 W) => conv_str (hv2.keep hW)
    have lx := fun W (hW : Below X2.heap.size X2 W) => hMx.kt (KT.below hW 62)
    have ly := fun W (hW : Below X2.heap.size X2 W) => hMy.kt (KT.below hW 62)
    have lp := fun W (hW : Below X2.heap.size X2 W) => hM1.kt (KT.below hW 62)
    have lq := fun W (hW : Below X2.heap.size X2 W) => hM2.kt (KT.below hW 62)
    obtain ⟨mx, hmx⟩ : ∃ mx, Rp.may x.m = mx := ⟨_, rfl⟩
    obtain ⟨sx, hsame⟩ : ∃ s, decide (x.m = y.m) = s := ⟨_, rfl⟩
    obtain ⟨pe, hpe⟩ : ∃ pe : Int, parE (Rp.parse b) = pe := ⟨_, rfl⟩
    simp only [hmx] at D44 D45
    simp only [hsame] at D46 D47
    rw [hpe]
    clear hmx hsame hpe hp hq hpm hqm hpq C44 C45 C46 C47 hx1 hy1 hMx hMy hM1 hM2 hv1 hv2 hone hone2 hap haq hax hay
    refine wp_region_held_drew (S := fun w' => Below X2.heap.size X2 w') (by kernel_rfl) (Below.refl _ _).drew (fun h0 => ?_)
    refine wpAnyH_take (i := 0) (oi := { dst := _, op := _, type := _, pos := _, after := _, guard := _ }) (v := Value.agg ax) rfl (by kernel_rfl) (by kernel_rfl) (by kernel_rfl) (fun _ _ _ h => h) ?yq0 (by assumption) ?rq0; (case yq0 => exact yieldsIf_loadM (by rfl) _ rfl rfl lx hsx); simp only [Act.put, List.setIfInBounds_toArray, List.set_cons_zero, List.set_cons_succ]
    refine wpAnyH_take (i := 2) (oi := { dst := _, op := _, type := _, pos := _, after := _, guard := _ }) (v := Value.agg ax) rfl (by kernel_rfl) (by kernel_rfl) (by kernel_rfl) (fun _ _ _ h => h) ?yq2 (by assumption) ?rq2; (case yq2 => exact yieldsIf_loadM (by rfl) _ rfl rfl lx hsx); simp only [Act.put, List.setIfInBounds_toArray, List.set_cons_zero, List.set_cons_succ]
    refine wpAnyH_ready (rs := [1]) (by kernel_rfl) (by simp) ?_
    refine AllReadyH.cons (o := { dst := _, op := _, type := _, pos := _, after := _, guard := _ }) rfl (fun K hK => ?_) AllReadyH.nil
    go_simp
    refine (D44 _ h0).mono ?_
    rintro e x1 ⟨rfl, hc1⟩
    have hd1 : Below X2.heap.size X2 x1 := Below.call h0 hc1
    refine hK.out _ _ hd1 (fun _ => ?_)
    clear hK K
    refine wpAnyH_ready (rs := [3]) (by kernel_rfl) (by simp) ?_
    refine AllReadyH.cons (o := { dst := _, op := _, type := _, pos := _, after := _, guard := _ }) rfl (fun K hK => ?_) AllReadyH.nil
    go_simp
    refine (D45 _ hd1).mono ?_
    rintro e x2 ⟨rfl, hc2⟩
    have hd2 : Below X2.heap.size X2 x2 := Below.call hd1 hc2
    refine hK.out _ _ hd2 (fun _ => ?_)
    clear hK K
    refine wpAnyH_take (i := 4) (oi := { dst := _, op := _, type := _, pos := _, after := _, guard := _ }) (v := ?vq4) rfl (by kernel_rfl) (by kernel_rfl) (by kernel_rfl) (fun _ _ _ h => h) (Or.inl ⟨by rfl, ?yq4⟩) (by assumption) ?rq4; (case yq4 => intro w hSw; go_simp <;> with_reducible rfl); simp only [Act.put, List.setIfInBounds_toArray, List.set_cons_zero, List.set_cons_succ]
    refine wpAnyH_take (i := 5) (oi := { dst := _, op := _, type := _, pos := _, after := _, guard := _ }) (v := ?vq5) rfl (by kernel_rfl) (by kernel_rfl) (by kernel_rfl) (fun _ _ _ h => h) (Or.inl ⟨by rfl, ?yq5⟩) (by assumption) ?rq5; (case yq5 => intro w hSw; go_simp <;> with_reducible rfl); simp only [Act.put, List.setIfInBounds_toArray, List.set_cons_zero, List.set_cons_succ]
    refine wpAnyH_take (i := 6) (oi := { dst := _, op := _, type := _, pos := _, after := _, guard := _ }) (v := ?vq6) rfl (by kernel_rfl) (by kernel_rfl) (by kernel_rfl) (fun _ _ _ h => h) (Or.inl ⟨by rfl, ?yq6⟩) (by assumption) ?rq6; (case yq6 => intro w hSw; go_simp <;> with_reducible rfl); simp only [Act.put, List.setIfInBounds_toArray, List.set_cons_zero, List.set_cons_succ]
    refine wpAnyH_take (i := 7) (oi := { dst := _, op := _, type := _, pos := _, after := _, guard := _ }) (v := ?vq7) rfl (by kernel_rfl) (by kernel_rfl) (by kernel_rfl) (fun _ _ _ h => h) (Or.inl ⟨by rfl, ?yq7⟩) (by assumption) ?rq7; (case yq7 => intro w hSw; have dd := k1 w hSw; go_simp <;> with_reducible rfl); simp only [Act.put, List.setIfInBounds_toArray, List.set_cons_zero, List.set_cons_succ]
    refine wpAnyH_take (i := 8) (oi := { dst := _, op := _, type := _, pos := _, after := _, guard := _ }) (v := ?vq8) rfl (by kernel_rfl) (by kernel_rfl) (by kernel_rfl) (fun _ _ _ h => h) (Or.inl ⟨by rfl, ?yq8⟩) (by assumption) ?rq8; (case yq8 => intro w hSw; go_simp <;> with_reducible rfl); simp only [Act.put, List.setIfInBounds_toArray, List.set_cons_zero, List.set_cons_succ]
    refine wpAnyH_take (i := 9) (oi := { dst := _, op := _, type := _, pos := _, after := _, guard := _ }) (v := ?vq9) rfl (by kernel_rfl) (by kernel_rfl) (by kernel_rfl) (fun _ _ _ h => h) (Or.inl ⟨by rfl, ?yq9⟩) (by assumption) ?rq9; (case yq9 => intro w hSw; have dd := k2 w hSw; go_simp <;> with_reducible rfl); simp only [Act.put, List.setIfInBounds_toArray, List.set_cons_zero, List.set_cons_succ]
    refine wpAnyH_take (i := 10) (oi := { dst := _, op := _, type := _, pos := _, after := _, guard := _ }) (v := ?vq10) rfl (by kernel_rfl) (by kernel_rfl) (by kernel_rfl) (fun _ _ _ h => h) (Or.inl ⟨by rfl, ?yq10⟩) (by assumption) ?rq10; (case yq10 => intro w hSw; go_simp <;> with_reducible rfl); simp only [Act.put, List.setIfInBounds_toArray, List.set_cons_zero, List.set_cons_succ]
    refine wpAnyH_take (i := 11) (oi := { dst := _, op := _, type := _, pos := _, after := _, guard := _ }) (v := ?vq11) rfl (by kernel_rfl) (by kernel_rfl) (by kernel_rfl) (fun _ _ _ h => h) (Or.inl ⟨by rfl, ?yq11⟩) (by assumption) ?rq11; (case yq11 => intro w hSw; go_simp <;> with_reducible rfl); simp only [Act.put, List.setIfInBounds_toArray, List.set_cons_zero, List.set_cons_succ]
    refine wpAnyH_take (i := 12) (oi := { dst := _, op := _, type := _, pos := _, after := _, guard := _ }) (v := ?vq12) rfl (by kernel_rfl) (by kernel_rfl) (by kernel_rfl) (fun _ _ _ h => h) (Or.inl ⟨by rfl, ?yq12⟩) (by assumption) ?rq12; (case yq12 => intro w hSw; go_simp <;> with_reducible rfl); simp only [Act.put, List.setIfInBounds_toArray, List.set_cons_zero, List.set_cons_succ]
    refine wpAnyH_take (i := 13) (oi := { dst := _, op := _, type := _, pos := _, after := _, guard := _ }) (v := ?vq13) rfl (by kernel_rfl) (by kernel_rfl) (by kernel_rfl) (fun _ _ _ h => h) (Or.inl ⟨by rfl, ?yq13⟩) (by assumption) ?rq13; (case yq13 => intro w hSw; go_simp <;> with_reducible rfl); simp only [Act.put, List.setIfInBounds_toArray, List.set_cons_zero, List.set_cons_succ]
    refine wpAnyH_take (i := 14) (oi := { dst := _, op := _, type := _, pos := _, after := _, guard := _ }) (v := ?vq14) rfl (by kernel_rfl) (by kernel_rfl) (by kernel_rfl) (fun _ _ _ h => h) (Or.inl ⟨by rfl, ?yq14⟩) (by assumption) ?rq14; (case yq14 => intro w hSw; go_simp <;> with_reducible rfl); simp only [Act.put, List.setIfInBounds_toArray, List.set_cons_zero, List.set_cons_succ]
    refine wpAnyH_take (i := 15) (oi := { dst := _, op := _, type := _, pos := _, after := _, guard := _ }) (v := ?vq15) rfl (by kernel_rfl) (by kernel_rfl) (by kernel_rfl) (fun _ _ _ h => h) (Or.inl ⟨by rfl, ?yq15⟩) (by assumption) ?rq15; (case yq15 => intro w hSw; go_simp <;> with_reducible rfl); simp only [Act.put, List.setIfInBounds_toArray, List.set_cons_zero, List.set_cons_succ]
    refine wpAnyH_take (i := 16) (oi := { dst := _, op := _, type := _, pos := _, after := _, guard := _ }) (v := ?vq16) rfl (by kernel_rfl) (by kernel_rfl) (by kernel_rfl) (fun _ _ _ h => h) (Or.inl ⟨by rfl, ?yq16⟩) (by assumption) ?rq16; (case yq16 => intro w hSw; go_simp <;> with_reducible rfl); simp only [Act.put, List.setIfInBounds_toArray, List.set_cons_zero, List.set_cons_succ]
    refine wpAnyH_take (i := 17) (oi := { dst := _, op := _, type := _, pos := _, after := _, guard := _ }) (v := ?vq17) rfl (by kernel_rfl) (by kernel_rfl) (by kernel_rfl) (fun _ _ _ h => h) (Or.inl ⟨by rfl, ?yq17⟩) (by assumption) ?rq17; (case yq17 => intro w hSw; go_simp <;> with_reducible rfl); simp only [Act.put, List.setIfInBounds_toArray, List.set_cons_zero, List.set_cons_succ]
    refine wpAnyH_take (i := 18) (oi := { dst := _, op := _, type := _, pos := _, after := _, guard := _ }) (v := Value.agg ap) rfl (by kernel_rfl) (by kernel_rfl) (by kernel_rfl) (fun _ _ _ h => h) ?yq18 (by assumption) ?rq18; (case yq18 => exact yieldsIf_loadM (by rfl) _ rfl rfl lp hsp); simp only [Act.put, List.setIfInBounds_toArray, List.set_cons_zero, List.set_cons_succ]
    refine wpAnyH_take (i := 19) (oi := { dst := _, op := _, type := _, pos := _, after := _, guard := _ }) (v := Value.agg aq) rfl (by kernel_rfl) (by kernel_rfl) (by kernel_rfl) (fun _ _ _ h => h) ?yq19 (by assumption) ?rq19; (case yq19 => exact yieldsIf_loadM (by rfl) _ rfl rfl lq hsq); simp only [Act.put, List.setIfInBounds_toArray, List.set_cons_zero, List.set_cons_succ]
    refine wpAnyH_ready (rs := [20]) (by kernel_rfl) (by simp) ?_
    refine AllReadyH.cons (o := { dst := _, op := _, type := _, pos := _, after := _, guard := _ }) rfl (fun K hK => ?_) AllReadyH.nil
    rw [if_pos (show Region.wanted _ _ = true from rfl)]
    go_simp
    refine (CP _ hd2).mono ?_
    rintro e x3 ⟨rfl, hc3⟩
    have hd3 : Below X2.heap.size X2 x3 := Below.call hd2 hc3
    refine hK.out _ _ hd3 (fun _ => ?_)
    clear hK K
    refine wpAnyH_take (i := 21) (oi := { dst := _, op := _, type := _, pos := _, after := _, guard := _ }) (v := ?vq21) rfl (by kernel_rfl) (by kernel_rfl) (by kernel_rfl) (fun _ _ _ h => h) (Or.inl ⟨by rfl, ?yq21⟩) (by assumption) ?rq21; (case yq21 => intro w hSw; go_simp <;> with_reducible rfl); simp only [Act.put, List.setIfInBounds_toArray, List.set_cons_zero, List.set_cons_succ]
    refine wpAnyH_take (i := 22) (oi := { dst := _, op := _, type := _, pos := _, after := _, guard := _ }) (v := ?vq22) rfl (by kernel_rfl) (by kernel_rfl) (by kernel_rfl) (fun _ _ _ h => h) (Or.inl ⟨by rfl, ?yq22⟩) (by assumption) ?rq22; (case yq22 => intro w hSw; go_simp <;> with_reducible rfl); simp only [Act.put, List.setIfInBounds_toArray, List.set_cons_zero, List.set_cons_succ]
    refine wpAnyH_take (i := 23) (oi := { dst := _, op := _, type := _, pos := _, after := _, guard := _ }) (v := ?vq23) rfl (by kernel_rfl) (by kernel_rfl) (by kernel_rfl) (fun _ _ _ h => h) (Or.inl ⟨by rfl, ?yq23⟩) (by assumption) ?rq23; (case yq23 => intro w hSw; go_simp <;> with_reducible rfl); simp only [Act.put, List.setIfInBounds_toArray, List.set_cons_zero, List.set_cons_succ]
    refine wpAnyH_take (i := 24) (oi := { dst := _, op := _, type := _, pos := _, after := _, guard := _ }) (v := ?vq24) rfl (by kernel_rfl) (by kernel_rfl) (by kernel_rfl) (fun _ _ _ h => h) (Or.inl ⟨by rfl, ?yq24⟩) (by assumption) ?rq24; (case yq24 => intro w hSw; go_simp <;> with_reducible rfl); simp only [Act.put, List.setIfInBounds_toArray, List.set_cons_zero, List.set_cons_succ]
    refine wpAnyH_take (i := 25) (oi := { dst := _, op := _, type := _, pos := _, after := _, guard := _ }) (v := ?vq25) rfl (by kernel_rfl) (by kernel_rfl) (by kernel_rfl) (fun _ _ _ h => h) (Or.inl ⟨by rfl, ?yq25⟩) (by assumption) ?rq25; (case yq25 => intro w hSw; go_simp <;> with_reducible rfl); simp only [Act.put, List.setIfInBounds_toArray, List.set_cons_zero, List.set_cons_succ]
    refine wpAnyH_take (i := 26) (oi := { dst := _, op := _, type := _, pos := _, after := _, guard := _ }) (v := ?vq26) rfl (by kernel_rfl) (by kernel_rfl) (by kernel_rfl) (fun _ _ _ h => h) (Or.inl ⟨by rfl, ?yq26⟩) (by assumption) ?rq26; (case yq26 => intro w hSw; go_simp <;> with_reducible rfl); simp only [Act.put, List.setIfInBounds_toArray, List.set_cons_zero, List.set_cons_succ]
    refine wpAnyH_take (i := 27) (oi := { dst := _, op := _, type := _, pos := _, after := _, guard := _ }) (v := ?vq27) rfl (by kernel_rfl) (by kernel_rfl) (by kernel_rfl) (fun _ _ _ h => h) (Or.inl ⟨by rfl, ?yq27⟩) (by assumption) ?rq27; (case yq27 => intro w hSw; go_simp <;> with_reducible rfl); simp only [Act.put, List.setIfInBounds_toArray, List.set_cons_zero, List.set_cons_succ]
    refine wpAnyH_take (i := 28) (oi := { dst := _, op := _, type := _, pos := _, after := _, guard := _ }) (v := Value.agg ax) rfl (by kernel_rfl) (by kernel_rfl) (by kernel_rfl) (fun _ _ _ h => h) ?yq28 (by assumption) ?rq28; (case yq28 => exact yieldsIf_loadM (by rfl) _ rfl rfl lx hsx); simp only [Act.put, List.setIfInBounds_toArray, List.set_cons_zero, List.set_cons_succ]
    refine wpAnyH_take (i := 29) (oi := { dst := _, op := _, type := _, pos := _, after := _, guard := _ }) (v := Value.agg ay) rfl (by kernel_rfl) (by kernel_rfl) (by kernel_rfl) (fun _ _ _ h => h) ?yq29 (by assumption) ?rq29; (case yq29 => exact yieldsIf_loadM (by rfl) _ rfl rfl ly hsy); simp only [Act.put, List.setIfInBounds_toArray, List.set_cons_zero, List.set_cons_succ]
    refine wpAnyH_take (i := 31) (oi := { dst := _, op := _, type := _, pos := _, after := _, guard := _ }) (v := Value.agg ax) rfl (by kernel_rfl) (by kernel_rfl) (by kernel_rfl) (fun _ _ _ h => h) ?yq31 (by assumption) ?rq31; (case yq31 => exact yieldsIf_loadM (by rfl) _ rfl rfl lx hsx); simp only [Act.put, List.setIfInBounds_toArray, List.set_cons_zero, List.set_cons_succ]
    refine wpAnyH_take (i := 32) (oi := { dst := _, op := _, type := _, pos := _, after := _, guard := _ }) (v := Value.agg ay) rfl (by kernel_rfl) (by kernel_rfl) (by kernel_rfl) (fun _ _ _ h => h) ?yq32 (by assumption) ?rq32; (case yq32 => exact yieldsIf_loadM (by rfl) _ rfl rfl ly hsy); simp only [Act.put, List.setIfInBounds_toArray, List.set_cons_zero, List.set_cons_succ]
    refine wpAnyH_ready (rs := [30]) (by kernel_rfl) (by simp) ?_
    refine AllReadyH.cons (o := { dst := _, op := _, type := _, pos := _, after := _, guard := _ }) rfl (fun K hK => ?_) AllReadyH.nil
    rw [if_pos (show Region.wanted _ _ = true from rfl)]
    go_simp
    refine (D47 _ hd3).mono ?_
    rintro e x4 ⟨rfl, hc4⟩
    have hd4 : Below X2.heap.size X2 x4 := Below.call hd3 hc4
    refine hK.out _ _ hd4 (fun _ => ?_)
    clear hK K
    refine wpAnyH_ready (rs := [33]) (by kernel_rfl) (by simp) ?_
    refine AllReadyH.cons (o := { dst := _, op := _, type := _, pos := _, after := _, guard := _ }) rfl (fun K hK => ?_) AllReadyH.nil
    rw [if_pos (show Region.wanted _ _ = true from rfl)]
    go_simp
    refine (D46 _ hd4).mono ?_
    rintro e x5 ⟨rfl, hc5⟩
    have hd5 : Below X2.heap.size X2 x5 := Below.call hd4 hc5
    refine hK.out _ _ hd5 (fun _ => ?_)
    clear hK K
    refine wpAnyH_take (i := 34) (oi := { dst := _, op := _, type := _, pos := _, after := _, guard := _ }) (v := ?vq34) rfl (by kernel_rfl) (by kernel_rfl) (by kernel_rfl) (fun _ _ _ h => h) (Or.inl ⟨by rfl, ?yq34⟩) (by assumption) ?rq34; (case yq34 => intro w hSw; go_simp <;> with_reducible rfl); simp only [Act.put, List.setIfInBounds_toArray, List.set_cons_zero, List.set_cons_succ]
    refine wpAnyH_take (i := 35) (oi := { dst := _, op := _, type := _, pos := _, after := _, guard := _ }) (v := ?vq35) rfl (by kernel_rfl) (by kernel_rfl) (by kernel_rfl) (fun _ _ _ h => h) (Or.inl ⟨by rfl, ?yq35⟩) (by assumption) ?rq35; (case yq35 => intro w hSw; go_simp <;> with_reducible rfl); simp only [Act.put, List.setIfInBounds_toArray, List.set_cons_zero, List.set_cons_succ]
    refine wpAnyH_take (i := 36) (oi := { dst := _, op := _, type := _, pos := _, after := _, guard := _ }) (v := ?vq36) rfl (by kernel_rfl) (by kernel_rfl) (by kernel_rfl) (fun _ _ _ h => h) (Or.inl ⟨by rfl, ?yq36⟩) (by assumption) ?rq36; (case yq36 => intro w hSw; go_simp <;> with_reducible rfl); simp only [Act.put, List.setIfInBounds_toArray, List.set_cons_zero, List.set_cons_succ]
    refine wpAnyH_done (by kernel_rfl) ?_ _
    go_wp2_with fail
    go_ret
    exact ⟨rfl, hal.trans (hd5.mono (Nat.le_trans hal.size (Nat.le_refl _)))⟩
end Go.Proofs.Ytlcnjinabfbglaa
