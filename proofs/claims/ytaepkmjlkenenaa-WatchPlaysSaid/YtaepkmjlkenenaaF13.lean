import Derived.Test.YtaepkmjlkenenaaF12
namespace Go.Proofs.Ytaepkmjlkenenaa
open Go.RowKit Go.Shelf
attribute [local go_sem] Oper.semAt_some

/-- a slice that lay ahead and shares nothing with what a look writes to -/
structure KT (w : World) (W : World) (b : Nat) (v : Value) (l : List Fi.St) (last : Int) : Prop where
  res : NumAt W w.heap.size 4 (.bool false)
  watch : WV W b v l last
  hb : w.heap.size < b
  hv : ∀ k, v.ownBlock = some k → w.heap.size < k
  bel : Below w.heap.size w W
theorem KT.keep {w W W' : World} {b : Nat} {v : Value} {l : List Fi.St} {last : Int} (h : KT w W b v l last) (hc : Below W.heap.size W W') : KT w W' b v l last :=
  ⟨h.res.keep hc, h.watch.keep hc, h.hb, h.hv, h.bel.trans (hc.mono (by have := h.res.lt; omega))⟩
theorem KT.vlt {w W : World} {b : Nat} {v : Value} {l : List Fi.St} {last : Int} (h : KT w W b v l last) : ∀ k, v.ownBlock = some k → k < W.heap.size := fun k hk => (World.ownsRow.lt h.watch.own k hk).2
/-- a row whose block is none of the watch's -/
structure Safe (b : Nat) (v : Value) (W : World) (x : Value) : Prop where
  apart : ∀ k, x.ownBlock = some k → ¬ (k = b ∨ v.ownBlock = some k)
theorem KT.look {w W W' : World} {b : Nat} {v : Value} {l l' : List Fi.St} {last last' : Int} (h : KT w W b v l last) (hw : WV W' b v l' last') (ho : Off (fun k => k = b ∨ v.ownBlock = some k) W W') (hB : Below b W W') : KT w W' b v l' last' := by
  have hb := h.hb
  refine ⟨ho.num h.res ?_, hw, hb, h.hv, h.bel.trans (hB.mono (by omega))⟩
  rintro (he | he)
  · omega
  · have := h.hv _ he; omega
theorem own_off {N : Nat} {E : TypeId} {sz : Nat} {w W : World} {x : Value} {n : Nat} {us : List Value} {Fr : Nat → Prop} (h : w.ownsRow N E sz x n us) (ho : Off Fr w W) (hf : ∀ k, x.ownBlock = some k → ¬ Fr k) : W.ownsRow N E sz x n us :=
  ownN_keepAt h (fun j hj => ho.same j (World.ownsRow.lt h j hj).2 (hf j hj))
theorem KT.keepAt {w W W' : World} {b N : Nat} {v : Value} {l : List Fi.St} {last : Int} (h : KT w W b v l last) (hc : Below N W W') (hb : b < N) (hv : ∀ k, v.ownBlock = some k → k < N) : KT w W' b v l last :=
  ⟨h.res.keepAt hc (by have := h.hb; omega), h.watch.keepAt hc hb hv, h.hb, h.hv, h.bel.trans (hc.mono (by have := h.hb; omega))⟩
theorem Off.ofBelow {N : Nat} {W W' : World} (h : Below N W W') : Off (fun k => N ≤ k) W W' := ⟨h.size, fun i _ hf => h.block i (by omega)⟩
theorem Off.andBelow {N : Nat} {Fr : Nat → Prop} {S A B : World} (h : Off Fr S A) (hb : Below N A B) (hN : S.heap.size ≤ N) : Off Fr S B :=
  ⟨Nat.le_trans h.size hb.size, fun i hi hf => (hb.block i (by omega)).trans (h.same i hi hf)⟩
theorem KT.off {w W W' : World} {b : Nat} {v : Value} {l : List Fi.St} {last : Int} {Fr : Nat → Prop} (h : KT w W b v l last) (ho : Off Fr W W') (h1 : ¬ Fr w.heap.size) (h2 : ¬ Fr b) (h3 : ∀ k, v.ownBlock = some k → ¬ Fr k) (hB : Below w.heap.size w W') : KT w W' b v l last :=
  ⟨ho.num h.res h1, ⟨by rw [ho.same b h.watch.lt h2]; exact h.watch.head, own_off h.watch.own ho h3⟩, h.hb, h.hv, hB⟩
theorem look_k {w W : World} {b : Nat} {v : Value} {l : List Fi.St} {last : Int} (T : KT w W b v l last) (vf : Value) (F : List Fi.Fire) (now : Int) (l' : List Fi.St) (R : List Fi.Alarm) (he : Fi.look F now l = l' ∧ Fi.rings F now 0 l = R) (hl : l.length ≤ 1000) (hn : F.length ≤ 1000000) (hf : ∀ f ∈ F, Fi.I64 f.at') (h0 : 0 ≤ now) (hlast : last ≤ now) (hnow : Fi.I64 now) (hF : Fires W vf F)
    (hs : ∀ k, vf.ownBlock = some k → ¬ (k = b ∨ v.ownBlock = some k)) :
    Calls Try.prog 19 #[.pointer (some ⟨b, 0, none⟩), vf, .int .i64 now] W fun e w' => ∃ ao cap, e = .returned (.tuple #[.slice ao R.length cap, .int .i64 0]) ∧ KT w w' b v l' now ∧ w'.ownsRow W.heap.size 53 3 (.slice ao R.length cap) R.length (R.flatMap alC) ∧ (∀ k, (Value.slice ao R.length cap).ownBlock = some k → ¬ (k = b ∨ v.ownBlock = some k)) ∧ Off (fun k => k = b ∨ v.ownBlock = some k) W w' := by
  obtain ⟨rfl, rfl⟩ := he
  refine (look_any b v vf l F last now hl hn hf h0 hlast hnow W T.watch hF (fun _ => hs)).mono ?_
  rintro e w' ⟨va, rfl, hW, hA, hO, hB⟩
  obtain ⟨ao, cap, rfl, -, -⟩ := ownN_form hA
  refine ⟨ao, cap, rfl, T.look hW hO hB, hA, ?_, hO⟩
  intro k hk
  have h1 := (World.ownsRow.lt hA k hk).1
  have h2 := T.watch.lt
  rintro (h3 | h3)
  · omega
  · have := T.vlt k h3; omega
theorem kI (F : List Fi.Fire) (h : F.all (fun f => decide (-9223372036854775808 ≤ f.at') && decide (f.at' ≤ 9223372036854775807)) = true) : ∀ f ∈ F, Fi.I64 f.at' := by
  intro f hf
  have := List.all_eq_true.1 h f hf
  simp only [Bool.and_eq_true, decide_eq_true_eq] at this
  exact this
set_option maxRecDepth 100000 in
set_option maxHeartbeats 4000000 in
theorem known_any (w : World) : Calls Try.prog 13 #[] w fun e w' => e = .returned (.bool true) ∧ Below w.heap.size w w' := by
  refine calls_marks Try.func13 rfl ?_
  simp only [Try.ntmps13, List.size_toArray, List.length_cons, List.length_nil, Nat.reduceAdd, Nat.reduceSub, Array.replicate_succ, Array.replicate_zero, List.push_toArray, List.append_toArray, List.nil_append, List.cons_append]
  have hb0 := Below.al (Below.refl w.heap.size w) (.cells #[.bool false] 4)
  have N0 : NumAt (w.alloc (.cells #[.bool false] 4)) w.heap.size 4 (.bool false) := by unfold NumAt World.alloc; simp
  have hnw := new_1 (w.alloc (.cells #[.bool false] 4))
  have hz : (w.alloc (.cells #[.bool false] 4)).heap.size = w.heap.size + 1 := by simp
  rw [hz] at hnw
  go_wp2_with fail
  generalize w.alloc (.cells #[.bool false] 4) = W0 at *
  refine hnw.mono ?_
  rintro e w1 ⟨b, v, rfl, hbb, hW, hc⟩
  have T : KT w w1 b v kl0 (-1) := ⟨N0.keep (hz ▸ hc), hW, by omega, fun k hk => by have := (World.ownsRow.lt hW.own k hk).1; omega, hb0.trans (hc.mono (by omega))⟩
  clear hnw hb0 N0 hz hc hW hbb
  have hnw := new_2 w1
  go_wp2_with fail
  refine hnw.mono ?_
  rintro e w2 ⟨rfl, hc⟩
  clear hnw
  go_wp2_with fail
  refine (fire_any 60 4 w2).mono ?_
  rintro e w3 ⟨rfl, hc3⟩
  replace T := (T.keep hc).keep hc3
  clear hc hc3
  have A := firLit w3 (kF 60 4)
  have hg := T.vlt
  have hgb := T.watch.lt
  have sA : ∀ k, (Value.slice (some ⟨w3.heap.size, 0, none⟩) 1 1).ownBlock = some k → ¬ (k = b ∨ v.ownBlock = some k) := by
    intro k hk
    obtain rfl : w3.heap.size = k := by simpa [Value.ownBlock] using hk
    rintro (he | he)
    · omega
    · have := hg _ he; omega
  have hA := Below.al (Below.refl w3.heap.size w3) (.cells #[.int .u64 1, .int .i64 60, .int .i64 4, .int .i64 0, .int .u64 0, .int .u64 0, .int .i64 0] 58)
  replace T := T.keep hA
  have hcl := cloneFi_any _ _ (by decide) _ A
  have hz : (w3.alloc (.cells #[.int .u64 1, .int .i64 60, .int .i64 4, .int .i64 0, .int .u64 0, .int .u64 0, .int .i64 0] 58)).heap.size = w3.heap.size + 1 := by simp
  unfold kF at A hcl
  go_wp2_with fail
  generalize w3.alloc (.cells #[.int .u64 1, .int .i64 60, .int .i64 4, .int .i64 0, .int .u64 0, .int .u64 0, .int .i64 0] 58) = W3 at *
  generalize w3.heap.size = g1 at *
  clear hg hgb hA
  have hb3 := T.watch.lt
  have hv3 := T.vlt
  refine hcl.mono ?_
  rintro e w4 ⟨cv, rfl, hC, hc⟩
  clear hcl
  have hz4 := hc.size
  replace T := T.keep hc
  replace A := A.keep hc
  clear hc
  go_wp2_with fail
  refine (fire_any 120 4 w4).mono ?_
  rintro e w5 ⟨rfl, hc⟩
  replace T := T.keep hc
  replace A := A.keep hc
  replace hz4 := Nat.le_trans hz4 hc.size
  replace hC := ownN_keepAt hC (fun j hj => hc.block j (World.ownsRow.lt hC j hj).2)
  clear hc
  go_wp2_with (at_builtin; refine wpList_appS w5 rfl _ _ 35 rfl W3.heap.size 58 _ 7 56 Try.underlying35 Try.info58 (by decide) rfl (by decide) hC (fireC (kF 120 4)) rfl rfl rfl (fire_one _) (by decide) hz4 ?_; intro v' w' hown' hbel')
  replace T := T.keepAt hbel' hb3 hv3
  have gA : ∀ k, (Value.slice (some ⟨g1, 0, none⟩) 1 1).ownBlock = some k → ¬ (W3.heap.size ≤ k) := fun k hk => by
    have h1 : g1 = k := by simpa [Value.ownBlock] using hk
    omega
  replace A := A.off (Off.ofBelow hbel') gA
  clear gA
  have B : w'.ownsRow W3.heap.size 58 7 v' 2 ([kF 60 4, kF 120 4].flatMap fireC) := hown'
  have sB : ∀ k, v'.ownBlock = some k → ¬ (k = b ∨ v.ownBlock = some k) := fun k hk => by
    have h1 := (World.ownsRow.lt hown' k hk).1
    rintro (h3 | h3)
    · omega
    · have := hv3 k h3; omega
  obtain ⟨bo, bc, rfl, -, -⟩ := ownN_form B
  clear hbel' hb3 hv3 hz4 hC hown' hz
  refine (look_k T _ _ 5 _ _ kA1 (by decide) (by decide) (kI _ rfl) (by decide) (by decide) ⟨by decide, by decide⟩ A sA).mono ?_
  rintro e w6 ⟨ao, ac, rfl, T6, A1, sA1, ho⟩
  replace A := A.off ho sA
  replace B := own_off B ho sB
  clear T ho
  go_wp2_with fail
  refine (look_old b v _ kl0 5 4 (.inr ⟨by decide, by decide⟩) _ T6.watch).mono ?_
  rintro e _ ⟨rfl, rfl⟩
  go_wp2_with fail
  refine (look_k T6 _ _ 6 _ _ kA2 (by decide) (by decide) (kI _ rfl) (by decide) (by decide) ⟨by decide, by decide⟩ (Row.own (l := [kF 60 4, kF 120 4]) fireC_len B (by omega)) sB).mono ?_
  rintro e w7 ⟨go, gc, rfl, T, G, sG, ho⟩
  replace B := own_off B ho sB
  replace A1 := own_off A1 ho sA1
  clear T6 ho A sA
  go_wp2_with fail
  have N7 : NumAt (w7.alloc (.cells #[.int .i64 0] 3)) w7.heap.size 3 (.int .i64 0) := by unfold NumAt World.alloc; simp
  have hA := Below.al (Below.refl w7.heap.size w7) (.cells #[.int .i64 0] 3)
  have hbn := T.watch.lt
  have hvn := T.vlt
  have hrn := T.res.lt
  have hBn := fun k hk => (World.ownsRow.lt B k hk).2
  have hAn := fun k hk => (World.ownsRow.lt A1 k hk).2
  have hGn := fun k hk => (World.ownsRow.lt G k hk).2
  replace T := T.keep hA
  replace B := ownN_keepAt B (fun j hj => hA.block j (hBn j hj))
  replace A1 := ownN_keepAt A1 (fun j hj => hA.block j (hAn j hj))
  replace G := ownN_keepAt G (fun j hj => hA.block j (hGn j hj))
  clear hA
  generalize w7.alloc (.cells #[.int .i64 0] 3) = W7 at *
  generalize w7.heap.size = nB at *
  refine (on_any _ W7).mono ?_
  rintro e w8 ⟨bx, rfl, hBx, hbx, hc⟩
  have hBl := hc.size
  replace N7 := N7.keep hc
  replace T := T.keep hc
  replace B := ownN_keepAt B (fun j hj => hc.block j (World.ownsRow.lt B j hj).2)
  replace A1 := ownN_keepAt A1 (fun j hj => hc.block j (World.ownsRow.lt A1 j hj).2)
  replace G := ownN_keepAt G (fun j hj => hc.block j (World.ownsRow.lt G j hj).2)
  clear hc
  go_wp2_with fail
  refine wp_rangeFunc_N (gf := 44) (lb := #[.pointer (some ⟨bx, 0, none⟩)]) rfl (enters_of Try.func44 (by kernel_rfl) rfl)
    (on_seq 8 (by omega) b _ kl1 6 (by decide) bx (fun k => k = nB) _ T.watch hBx) (fun k hk => by subst hk; exact N7.lt) (fun _ => rfl)
    (fun k W => Off (fun k => k = nB) w8 W ∧ NumAt W nB 3 (.int .i64 k) ∧ Below w.heap.size w W) (fun _ _ _ => False)
    (fun s A B hs hb => ⟨hs.1.andBelow hb (Nat.le_refl _), hs.2.1.keepAt hb N7.lt, hs.2.2.trans (hb.mono (by have := T.res.lt; omega))⟩) (fun _ _ _ _ h _ => h) ⟨Off.refl _ _, N7, T.bel⟩ ?a1 ?assign ?body ?done ?stop
  case assign =>
    intro l k W K hK
    have HK := Lib.hid hK
    clear hK
    simp only [onEnc]
    gi_wp2
    exact HK.out
  case body =>
    rintro l k W hkN ⟨hO, N, hBW⟩ hzW
    have hk0 : k = 0 := by have : (onsL kl1).length = 1 := rfl
                           omega
    subst hk0
    have e0 : ((onsL kl1)[0]?.getD (0, 0)).1 = 0 := rfl
    have e1 : ((onsL kl1)[0]?.getD (0, 0)).2 = 6 := rfl
    rw [e0, e1]
    have cN := N.cell
    have fN := N.froz
    have N1 := N.set (.int .i64 1)
    gi_wp2
    exact ⟨Off.setCell (Fr := fun k => k = nB) (Off.refl _ _) (a := ⟨nB, 0, none⟩) rfl _, hO.setCell (a := ⟨nB, 0, none⟩) rfl _, N1, hBW.setCell (p := ⟨nB, 0, none⟩) (by show w.heap.size ≤ nB; omega) _⟩
  case stop => rintro D c k W hD hkN h; exact h.elim
  case done =>
    rintro D W hD ⟨hO, N, hBW⟩ hK
    have e0 : (onsL kl1).length = 1 := rfl
    rw [e0] at N
    have hKl : D < W.heap.size := (Array.getElem?_eq_some_iff.1 hK).1
    have hDw : w.heap.size + 1 ≤ D := by have := T.res.lt; omega
    have hDb : ¬ (D = b ∨ v.ownBlock = some D) := by
      have h1 := T.watch.lt
      rintro (h3 | h3)
      · omega
      · have := T.vlt D h3; omega
    have nN : ¬ (nB = b ∨ v.ownBlock = some nB) := by
      rintro (h3 | h3)
      · omega
      · have := hvn nB h3; omega
    replace T := T.off hO (by omega) (by omega) (fun k hk he => by have := hvn k hk; omega) hBW
    replace B := own_off B hO (fun k hk he => by have := hBn k hk; omega)
    replace A1 := own_off A1 hO (fun k hk he => by have := hAn k hk; omega)
    replace G := own_off G hO (fun k hk he => by have := hGn k hk; omega)
    clear hO hBW hD N7 hBx hbx hBl hbn hvn hrn hBn hAn hGn e0
    go_wp2_with fail
    refine (look_k T _ _ 7 _ _ kA3 (by decide) (by decide) (kI _ rfl) (by decide) (by decide) ⟨by decide, by decide⟩ (Row.own (l := [kF 60 4, kF 120 4]) fireC_len B (by omega)) sB).mono ?_
    rintro e w9 ⟨co, cc, rfl, T9, C, sC, ho⟩
    replace B := own_off B ho sB
    replace A1 := own_off A1 ho sA1
    replace G := own_off G ho sG
    replace N := ho.num N nN
    replace hK := (ho.same D hKl hDb).trans hK
    replace hKl := Nat.lt_of_lt_of_le hKl ho.size
    clear ho T
    go_wp2_with fail
    refine (cloneFi_any _ _ (by decide) _ (Row.own (l := [kF 60 4, kF 120 4]) fireC_len B (by omega))).mono ?_
    rintro e w10 ⟨cv, rfl, hC, hc⟩
    have hz4 := hc.size
    have hb3 := T9.watch.lt
    have hv3 := T9.vlt
    have hg9 := fun k hk => (World.ownsRow.lt G k hk).2
    have ha9 := fun k hk => (World.ownsRow.lt A1 k hk).2
    have hc9 := fun k hk => (World.ownsRow.lt C k hk).2
    have hn9 := N.lt
    replace T := T9.keep hc
    replace A1 := ownN_keepAt A1 (fun j hj => hc.block j (ha9 j hj))
    replace G := ownN_keepAt G (fun j hj => hc.block j (hg9 j hj))
    replace C := ownN_keepAt C (fun j hj => hc.block j (hc9 j hj))
    replace N := N.keep hc
    replace hK := (hc.block D hKl).trans hK
    clear B sB T9 hc
    go_wp2_with fail
    refine (fire_any 180 3 w10).mono ?_
    rintro e w11 ⟨rfl, hc⟩
    replace hz4 := Nat.le_trans hz4 hc.size
    replace T := T.keep hc
    replace A1 := ownN_keepAt A1 (fun j hj => hc.block j (World.ownsRow.lt A1 j hj).2)
    replace G := ownN_keepAt G (fun j hj => hc.block j (World.ownsRow.lt G j hj).2)
    replace C := ownN_keepAt C (fun j hj => hc.block j (World.ownsRow.lt C j hj).2)
    replace hC := ownN_keepAt hC (fun j hj => hc.block j (World.ownsRow.lt hC j hj).2)
    replace N := N.keep hc
    replace hK := (hc.block D (Array.getElem?_eq_some_iff.1 hK).1).trans hK
    clear hc
    go_wp2_with (at_builtin; refine wpList_appS w11 rfl _ _ 35 rfl w9.heap.size 58 _ 7 56 Try.underlying35 Try.info58 (by decide) rfl (by decide) hC (fireC (kF 180 3)) rfl rfl rfl (fire_one _) (by decide) hz4 ?_; intro v' w' hown' hbel')
    replace T := T.keepAt hbel' hb3 hv3
    replace A1 := ownN_keepAt A1 (fun j hj => hbel'.block j (ha9 j hj))
    replace G := ownN_keepAt G (fun j hj => hbel'.block j (hg9 j hj))
    replace C := ownN_keepAt C (fun j hj => hbel'.block j (hc9 j hj))
    replace N := N.keepAt hbel' hn9
    replace hK := (hbel'.block D hKl).trans hK
    have B : w'.ownsRow w9.heap.size 58 7 v' 3 ([kF 60 4, kF 120 4, kF 180 3].flatMap fireC) := hown'
    have sB : ∀ k, v'.ownBlock = some k → ¬ (k = b ∨ v.ownBlock = some k) := fun k hk => by
      have h1 := (World.ownsRow.lt hown' k hk).1
      rintro (h3 | h3)
      · omega
      · have := hv3 k h3; omega
    clear hown' hbel' hz4 hb3 hv3 hg9 ha9 hc9 hn9 hC
    have hKl := (Array.getElem?_eq_some_iff.1 hK).1
    refine (look_k T _ _ 8 _ _ kA4 (by decide) (by decide) (kI _ rfl) (by decide) (by decide) ⟨by decide, by decide⟩ (Row.own (l := [kF 60 4, kF 120 4, kF 180 3]) fireC_len B (by omega)) sB).mono ?_
    rintro e w12 ⟨do', dc, rfl, T12, E, sE, ho⟩
    replace A1 := own_off A1 ho sA1
    replace G := own_off G ho sG
    replace C := own_off C ho sC
    replace N := ho.num N nN
    replace hK := (ho.same D hKl hDb).trans hK
    clear ho T B sB hKl
    go_wp2_with fail
    refine (rule_at b _ kl2 8 0 ⟨kR, false, 8⟩ (by decide) rfl _ T12.watch).mono ?_
    rintro e w13 ⟨rfl, hc⟩
    replace T := T12.keep hc
    replace A1 := ownN_keepAt A1 (fun j hj => hc.block j (World.ownsRow.lt A1 j hj).2)
    replace G := ownN_keepAt G (fun j hj => hc.block j (World.ownsRow.lt G j hj).2)
    replace C := ownN_keepAt C (fun j hj => hc.block j (World.ownsRow.lt C j hj).2)
    replace E := ownN_keepAt E (fun j hj => hc.block j (World.ownsRow.lt E j hj).2)
    replace N := N.keep hc
    replace hK := (hc.block D (Array.getElem?_eq_some_iff.1 hK).1).trans hK
    clear hc T12
    unfold ruleV kR
    go_wp2_with fail
    have R : RuleAt (w13.alloc (.cells #[.int .u8 2, .int .u64 1, .int .i64 2] 34)) 34 w13.heap.size ⟨2, 1, 2⟩ := RuleAt.new w13 34 ⟨2, 1, 2⟩ _ rfl
    have hA := Below.al (Below.refl w13.heap.size w13) (.cells #[.int .u8 2, .int .u64 1, .int .i64 2] 34)
    replace T := T.keep hA
    replace A1 := ownN_keepAt A1 (fun j hj => hA.block j (World.ownsRow.lt A1 j hj).2)
    replace G := ownN_keepAt G (fun j hj => hA.block j (World.ownsRow.lt G j hj).2)
    replace C := ownN_keepAt C (fun j hj => hA.block j (World.ownsRow.lt C j hj).2)
    replace E := ownN_keepAt E (fun j hj => hA.block j (World.ownsRow.lt E j hj).2)
    replace N := N.keep hA
    replace hK := (hA.block D (Array.getElem?_eq_some_iff.1 hK).1).trans hK
    clear hA
    generalize w13.alloc (.cells #[.int .u8 2, .int .u64 1, .int .i64 2] 34) = W14 at *
    generalize w13.heap.size = nR at *
    refine (look_nil _ 1 W14).mono ?_
    rintro e _ ⟨rfl, rfl⟩
    obtain ⟨r0, r1, r2⟩ := R.facts
    go_wp2_with fail
    refine (add_nil ⟨2, 1, 2⟩ W14).mono ?_
    rintro e w15 ⟨rfl, hc⟩
    replace R := R.keep hc
    replace T := T.keep hc
    replace A1 := ownN_keepAt A1 (fun j hj => hc.block j (World.ownsRow.lt A1 j hj).2)
    replace G := ownN_keepAt G (fun j hj => hc.block j (World.ownsRow.lt G j hj).2)
    replace C := ownN_keepAt C (fun j hj => hc.block j (World.ownsRow.lt C j hj).2)
    replace E := ownN_keepAt E (fun j hj => hc.block j (World.ownsRow.lt E j hj).2)
    replace N := N.keep hc
    replace hK := (hc.block D (Array.getElem?_eq_some_iff.1 hK).1).trans hK
    clear hc r0 r1 r2
    go_wp2_with fail
    refine (on_any none w15).mono ?_
    rintro e w16 ⟨by', rfl, hBy, -, hc⟩
    replace R := R.keep hc
    replace T := T.keep hc
    replace A1 := ownN_keepAt A1 (fun j hj => hc.block j (World.ownsRow.lt A1 j hj).2)
    replace G := ownN_keepAt G (fun j hj => hc.block j (World.ownsRow.lt G j hj).2)
    replace C := ownN_keepAt C (fun j hj => hc.block j (World.ownsRow.lt C j hj).2)
    replace E := ownN_keepAt E (fun j hj => hc.block j (World.ownsRow.lt E j hj).2)
    replace N := N.keep hc
    replace hK := (hc.block D (Array.getElem?_eq_some_iff.1 hK).1).trans hK
    clear hc
    go_wp2_with fail
    refine wp_rangeFunc_N (gf := 44) (lb := #[.pointer (some ⟨by', 0, none⟩)]) rfl (enters_of Try.func44 (by kernel_rfl) rfl)
      (on_none 8 (fun _ => #[.int .i64 0, .int .i64 0]) by' (fun _ => False) _ hBy) (fun k hk => hk.elim) (fun _ => rfl)
      (fun k W => Below w16.heap.size w16 W) (fun _ _ _ => False)
      (fun s A B hs hb => hs.trans hb) (fun _ _ _ _ h _ => h) (Below.refl _ _) ?a2 ?assign2 ?body2 ?done2 ?stop2
    case assign2 =>
      intro l k W K hK
      have HK := Lib.hid hK
      clear hK
      gi_wp2
      exact HK.out
    case body2 => rintro l k W hkN; exact absurd hkN (Nat.not_lt_zero k)
    case stop2 => rintro D c k W hD hkN; exact absurd hkN (Nat.not_lt_zero k)
    case done2 =>
      rintro D2 W hD2 hB hK2
      have hw16 := T.res.lt
      replace R := R.keep hB
      replace T := T.keep hB
      replace A1 := ownN_keepAt A1 (fun j hj => hB.block j (World.ownsRow.lt A1 j hj).2)
      replace G := ownN_keepAt G (fun j hj => hB.block j (World.ownsRow.lt G j hj).2)
      replace C := ownN_keepAt C (fun j hj => hB.block j (World.ownsRow.lt C j hj).2)
      replace E := ownN_keepAt E (fun j hj => hB.block j (World.ownsRow.lt E j hj).2)
      replace N := N.keep hB
      have hDD : D < w16.heap.size := (Array.getElem?_eq_some_iff.1 hK).1
      replace hK := (hB.block D hDD).trans hK
      have hne : D ≠ D2 := by omega
      obtain ⟨r0, r1, r2⟩ := R.facts
      have cN := N.cell
      have cR := T.res.cell
      have fR := T.res.froz
      obtain ⟨g2, gc2, hg, -, -⟩ := ownN_row G (by decide)
      obtain ⟨rfl, rfl⟩ : go = some ⟨g2, 0, none⟩ ∧ gc = gc2 := by simpa using hg
      obtain ⟨d2, dc2, hd, -, -⟩ := ownN_row E (by decide)
      obtain ⟨rfl, rfl⟩ : do' = some ⟨d2, 0, none⟩ ∧ dc = dc2 := by simpa using hd
      have g0 : W.cell? ⟨g2, 0, none⟩ = some (.int .i64 0) := (ownN_cell G (j := 0) rfl).1
      have g1' : W.cell? ⟨g2, 1, none⟩ = some (.bool true) := (ownN_cell G (j := 1) rfl).1
      have g2' : W.cell? ⟨g2, 2, none⟩ = some (.int .i64 6) := (ownN_cell G (j := 2) rfl).1
      have e1 : W.cell? ⟨d2, 1, none⟩ = some (.bool false) := (ownN_cell E (j := 1) rfl).1
      clear hg hd
      go_wp2_with fail
      have hDl : D2 < W.heap.size := (Array.getElem?_eq_some_iff.1 hK2).1
      have T2 := T.res.set (.bool true)
      have hwD := T.res.lt
      have hBf := T.bel.setCell (p := ⟨w.heap.size, 0, none⟩) (Nat.le_refl _) (.bool true)
      have hwb := T.hb
      have q2 : (W.setCell ⟨w.heap.size, 0, none⟩ (.bool true)).heap[D2]? = some (.deferred (some [])) := by rw [Below.heap_setCell _ _ _ _ (by simp; omega)]; exact hK2
      have q1 : (W.setCell ⟨w.heap.size, 0, none⟩ (.bool true)).heap[D]? = some (.deferred (some [])) := by rw [Below.heap_setCell _ _ _ _ (by simp; omega)]; exact hK
      refine ⟨by simp, .inl ⟨_, _, rfl, run_takeDeferred q2, ?_⟩⟩
      have q3 : ((W.setCell ⟨w.heap.size, 0, none⟩ (.bool true)).putObj D2 (.deferred none)).heap[D]? = some (.deferred (some [])) := by rw [World.putObj_heap_other (by omega)]; exact q1
      refine ⟨by simp, .inl ⟨_, _, rfl, run_takeDeferred q3, ?_⟩⟩
      have hbD := Below.putObj (Below.putObj (Below.refl (w.heap.size + 1) (W.setCell ⟨w.heap.size, 0, none⟩ (.bool true))) (l := D2) (by omega) (.deferred none)) (l := D) (by omega) (.deferred none)
      have m6 := (T2.keepAt hbD (by omega)).cell
      refine ⟨.bool true, ?_, rfl, hBf.trans (hbD.mono (by omega))⟩
      simp [results, Try.results13, go_sem, m6]
end Go.Proofs.Ytaepkmjlkenenaa
