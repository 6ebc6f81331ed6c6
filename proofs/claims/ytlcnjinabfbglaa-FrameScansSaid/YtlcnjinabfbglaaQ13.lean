/- FrameScans: what its loop keeps; the walk. -/
import Derived.Test.YtlcnjinabfbglaaQ11
import Derived.Test.YtlcnjinabfbglaaRg
namespace Go.Proofs.Ytlcnjinabfbglaa
open Go.RowKit Go.Shelf
attribute [local go_sem] Oper.semAt_some
theorem NumAt.setT {W : World} {b b' : Nat} {T T' : TypeId} {v v' : Value} (h : NumAt W b T v) (h' : NumAt W b' T' v') (hT : T ≠ T' ∨ b ≠ b') (u : Value) : NumAt (W.setCell ⟨b', 0, none⟩ u) b T v := by
  refine h.other _ ?_ u
  rcases hT with hT | hT
  · rintro rfl
    unfold NumAt at h h'
    rw [h] at h'
    simp only [Option.some.injEq, Obj.cells.injEq] at h'
    exact hT h'.2.1
  · exact hT
theorem RI.setT {B : Nat} {W : World} {ov : Value} {us : List Value} {rs : List (List UInt8)} (h : RI B W ov us rs) {b : Nat} {T : TypeId} {v : Value} (hN : NumAt W b T v) (hT : T ≠ 5) (hT2 : T ≠ 22) (u : Value) : RI B (W.setCell ⟨b, 0, none⟩ u) ov us rs :=
  ⟨own_at2 h.own (fun k cs hk hc => by
    rw [Below.heap_setCell _ _ _ _ (show k ≠ b from ?_)]
    · exact hc
    · rintro rfl
      unfold NumAt at hN
      rw [hN] at hc
      simp only [Option.some.injEq, Obj.cells.injEq] at hc
      exact hT2 hc.2.1), fun i hi => by obtain ⟨u', h1, h2⟩ := h.bts i hi; exact ⟨u', h1, h2.k5 (K5.set hN hT u)⟩⟩
/-- the law's arguments and result, in their boxes -/
structure P0 (N : Nat) (w : World) (v : Value) (left : Int) (W : World) : Prop where
  inp : NumAt W N 22 v
  lft : NumAt W (N + 1) 3 (.int .i64 left)
  res : NumAt W (N + 1 + 1) 4 (.bool false)
  bel : Below N w W
theorem P0.kc {N : Nat} {w : World} {v : Value} {left : Int} {A C : World} (h : P0 N w v left A) (hk : Kc A C) (hb : Below N A C) : P0 N w v left C := ⟨hk.num h.inp, hk.num h.lft, hk.num h.res, h.bel.trans hb⟩
theorem P0.keep {N : Nat} {w : World} {v : Value} {left : Int} {A C : World} (h : P0 N w v left A) (hb : Below A.heap.size A C) : P0 N w v left C := h.kc (Kc.below hb) (hb.mono (Nat.le_of_lt h.inp.lt))
/-- what the loop keeps -/
structure FI (N M Ii Ia Bx : Nat) (w : World) (v : Value) (left : Int) (l : List UInt8) (B : Nat) (R : List (List UInt8)) (mv : Value) (us : List Value) (k : Nat) (W : World) : Prop where
  p0 : P0 N w v left W
  mm : NumAt W M 47 mv
  ii : NumAt W Ii 3 (.int .i64 (k : Int))
  ia : NumAt W Ia 3 (.int .i64 (Fr.pos l k : Int))
  row : RI B W mv us R
  all : AllK Bx v l W
theorem FI.kc {N M Ii Ia Bx : Nat} {w : World} {v : Value} {left : Int} {l : List UInt8} {B : Nat} {R : List (List UInt8)} {mv : Value} {us : List Value} {k : Nat} {A C : World} (h : FI N M Ii Ia Bx w v left l B R mv us k A) (hk : Kc A C) (hb : Below N A C) : FI N M Ii Ia Bx w v left l B R mv us k C :=
  ⟨h.p0.kc hk hb, hk.num h.mm, hk.num h.ii, hk.num h.ia, h.row.kc hk, h.all.kc hk⟩
theorem FI.keep {N M Ii Ia Bx : Nat} {w : World} {v : Value} {left : Int} {l : List UInt8} {B : Nat} {R : List (List UInt8)} {mv : Value} {us : List Value} {k : Nat} {A C : World} (h : FI N M Ii Ia Bx w v left l B R mv us k A) (hb : Below A.heap.size A C) : FI N M Ii Ia Bx w v left l B R mv us k C :=
  h.kc (Kc.below hb) (hb.mono (Nat.le_of_lt h.p0.inp.lt))
theorem FI.step {N M Ii Ia Bx : Nat} {w : World} {v : Value} {left : Int} {l : List UInt8} {B : Nat} {R : List (List UInt8)} {mv : Value} {us : List Value} {k : Nat} {W : World} (h : FI N M Ii Ia Bx w v left l B R mv us k W)
    (hB : Bts w v l) (hN : w.heap.size = N) (h1 : N + 1 + 1 < Ii) (h2 : Ii < Ia) (p q : Int) (hp : (Fr.pos l (k + 1) : Int) = p) (hq : ((k + 1 : Nat) : Int) = q) :
    FI N M Ii Ia Bx w v left l B R mv us (k + 1) ((W.setCell ⟨Ia, 0, none⟩ (.int .i64 p)).setCell ⟨Ii, 0, none⟩ (.int .i64 q)) ∧ (∀ j, Ia < j → ((W.setCell ⟨Ia, 0, none⟩ (.int .i64 p)).setCell ⟨Ii, 0, none⟩ (.int .i64 q)).heap[j]? = W.heap[j]?) := by
  have i1 := h.ii.setT h.ia (.inr (by omega)) (.int .i64 p)
  have bel : Below N w ((W.setCell ⟨Ia, 0, none⟩ (.int .i64 p)).setCell ⟨Ii, 0, none⟩ (.int .i64 q)) := (h.p0.bel.setCell (p := ⟨Ia, 0, none⟩) (by show N ≤ Ia; omega) _).setCell (p := ⟨Ii, 0, none⟩) (by show N ≤ Ii; omega) _
  refine ⟨⟨⟨(h.p0.inp.setT h.ia (.inr (by omega)) _).setT i1 (.inr (by omega)) _, (h.p0.lft.setT h.ia (.inr (by omega)) _).setT i1 (.inr (by omega)) _, (h.p0.res.setT h.ia (.inr (by omega)) _).setT i1 (.inr (by omega)) _, bel⟩, (h.mm.setT h.ia (.inl (by decide)) _).setT i1 (.inl (by decide)) _, by rw [hq]; exact i1.set _, ?_, (h.row.setT h.ia (by decide) (by decide) _).setT i1 (by decide) (by decide) _, (h.all.1.setT h.ia (.inl (by decide)) _).setT i1 (.inl (by decide)) _, hB.keep (by rw [hN]; exact bel)⟩, fun j hj => ?_⟩
  · rw [hp]; exact (h.ia.set _).setT i1 (.inr (by omega)) _
  · rw [Below.heap_setCell _ _ _ _ (show j ≠ Ii by omega), Below.heap_setCell _ _ _ _ (show j ≠ Ia by omega)]
set_option maxRecDepth 100000 in
set_option maxHeartbeats 4000000 in
theorem frameScans_great (v : Value) (l : List UInt8) (left : Int) (w : World) (hB : Bts w v l) (hl : 600 < l.length) : Calls Try.prog 8 #[v, .int .i64 left] w fun e w' => e = .returned (.bool true) ∧ Below w.heap.size w w' := by
  obtain ⟨ao, cap, rfl, h1, h2, h3⟩ := hB.form
  have g1 : (600 : Int) < (l.length : Int) := by omega
  have hb0 : Below w.heap.size w (((w.alloc (.cells #[.slice ao l.length cap] 22)).alloc (.cells #[.int .i64 left] 3)).alloc (.cells #[.bool false] 4)) := Below.al (Below.al (Below.al (Below.refl _ _) _) _) _
  have n1 := ((NumAt.mk w 22 (.slice ao l.length cap) w.heap.size rfl).keep (Below.al (Below.refl _ _) (.cells #[.int .i64 left] 3))).keep (Below.al (Below.refl _ _) (.cells #[.bool false] 4))
  have n3 := NumAt.mk ((w.alloc (.cells #[.slice ao l.length cap] 22)).alloc (.cells #[.int .i64 left] 3)) 4 (.bool false) (w.heap.size + 1 + 1) (by simp)
  refine calls_marks Try.func8 rfl ?_
  simp only [Try.ntmps8, List.size_toArray, List.length_cons, List.length_nil, Nat.reduceAdd, Nat.reduceSub, Array.replicate_succ, Array.replicate_zero, List.push_toArray, List.append_toArray, List.nil_append, List.cons_append]
  go_wp2_with (go_at_call 29; refine (known03_any _).mono ?_; rintro e w1 ⟨rfl, hc⟩; have c1 := (n1.keep hc).cell; have n3' := n3.keep hc; have c3 := n3'.cell; have f3 := n3'.froz)
  have m3 := (n3'.set (.bool true)).cell
  refine ⟨.bool true, ?_, rfl, (Below.call hb0 hc).setCell (p := ⟨w.heap.size + 1 + 1, 0, none⟩) (by show w.heap.size ≤ w.heap.size + 1 + 1; omega) _⟩
  simp [results, Try.results8, go_sem, m3]
theorem pick_first (o : Option (List UInt8 × Nat)) : (∃ rv nv bv, (∀ (W : World) (e : Ending), (match o with
      | none => e = .returned noneFV
      | some (s, n) => ∃ r, e = .returned (.tuple #[r, .int .i64 (n : Int), .bool true]) ∧ Bt W r s) → ∃ ro rn rc, e = .returned (.tuple #[.slice ro rn rc, .int .i64 nv, .bool bv]) ∧ Bts W (.slice ro rn rc) rv)) := by
  cases o with
  | none => exact ⟨[], 0, false, fun W e h => ⟨none, 0, 0, h, Sli.nil W⟩⟩
  | some p =>
    obtain ⟨s, n⟩ := p
    refine ⟨s, n, true, fun W e h => ?_⟩
    obtain ⟨r, he, hB⟩ := h
    obtain ⟨b, off, rn, rc, rfl, -⟩ := id hB.2
    exact ⟨_, _, _, he, hB.1⟩
set_option maxRecDepth 100000 in
set_option maxHeartbeats 8000000 in
theorem frameScans_any (v : Value) (l : List UInt8) (left : Int) (w : World) (hB : Bts w v l) : Calls Try.prog 8 #[v, .int .i64 left] w fun e w' => e = .returned (.bool true) ∧ Below w.heap.size w w' := by
  by_cases hl : 600 < l.length
  · exact frameScans_great v l left w hB hl
  obtain ⟨ao, cap, rfl, h1, h2, h3⟩ := hB.form
  unfold maxLen at h2
  have g1 : ¬ (600 : Int) < (l.length : Int) := by omega
  obtain ⟨rv, nv, bv, hpick⟩ := pick_first (Fr.first Fr.ck4 l)
  have hat := Fr.scan_at l
  have hple := Fr.pos_le l
  have hseq := all_seq 8 (by omega) (.slice ao l.length cap) l (by omega)
  have hAE : ∀ k args W, AllE l k args W → ∃ r s, args = #[.int .i64 (Fr.pos l k : Int), r] ∧ (Fr.scan l).1[k]? = some s ∧ Bt W r s := fun k args W h => h
  have h32 := fun w hB => scan_any (.slice ao l.length cap) l w hB (by omega)
  have h33 := fun w hB => refScan_any (.slice ao l.length cap) l w hB (by omega)
  have h34 := fun w hB => first_any (.slice ao l.length cap) l w hB (by omega)
  have h35 := fun w hB => refFirst_any (.slice ao l.length cap) l w hB (by omega)
  have h35' := fun v l w hB hl => refFirst_any v l w hB hl
  generalize Fr.first Fr.ck4 l = o at h34 h35 hpick
  obtain ⟨R, hR⟩ : ∃ R, R = (Fr.scan l).1 := ⟨_, rfl⟩
  obtain ⟨G, hG⟩ : ∃ G, G = (Fr.scan l).2 := ⟨_, rfl⟩
  rw [← hR] at hat hple hseq
  simp only [← hR, ← hG] at hAE h32 h33
  have HA := Lib.hid hat
  have HP := Lib.hid hple
  have HAE := Lib.hid hAE
  have HPK := Lib.hid hpick
  clear hat hple hAE hpick hR hG
  refine calls_marks Try.func8 rfl ?_
  simp only [Try.ntmps8, List.size_toArray, List.length_cons, List.length_nil, Nat.reduceAdd, Nat.reduceSub, Array.replicate_succ, Array.replicate_zero, List.push_toArray, List.append_toArray, List.nil_append, List.cons_append]
  have hb0 : Below w.heap.size w (((w.alloc (.cells #[.slice ao l.length cap] 22)).alloc (.cells #[.int .i64 left] 3)).alloc (.cells #[.bool false] 4)) := Below.al (Below.al (Below.al (Below.refl _ _) _) _) _
  have n1 := ((NumAt.mk w 22 (.slice ao l.length cap) w.heap.size rfl).keep (Below.al (Below.refl _ _) (.cells #[.int .i64 left] 3))).keep (Below.al (Below.refl _ _) (.cells #[.bool false] 4))
  have n2 := (NumAt.mk (w.alloc (.cells #[.slice ao l.length cap] 22)) 3 (.int .i64 left) (w.heap.size + 1) (by simp)).keep (Below.al (Below.refl _ _) (.cells #[.bool false] 4))
  have n3 := NumAt.mk ((w.alloc (.cells #[.slice ao l.length cap] 22)).alloc (.cells #[.int .i64 left] 3)) 4 (.bool false) (w.heap.size + 1 + 1) (by simp)
  have p0 : P0 w.heap.size w (.slice ao l.length cap) left _ := ⟨n1, n2, n3, hb0⟩
  clear n1 n2 n3 hb0
  obtain ⟨N, hN⟩ : ∃ N, w.heap.size = N := ⟨_, rfl⟩
  go_wp2_with fail
  rw [hN] at p0
  generalize ((w.alloc (.cells #[.slice ao l.length cap] 22)).alloc (.cells #[.int .i64 left] 3)).alloc (.cells #[.bool false] 4) = W0 at *

  refine (known03_any _).mono ?_
  rintro e w1 ⟨rfl, hc⟩
  replace p0 := p0.keep hc
  clear hc
  have c1 := p0.inp.cell
  go_wp2_with fail
  refine (h32 _ (hB.keep (hN ▸ p0.bel))).mono ?_
  rintro e w2 ⟨v2, us2, rfl, r2, hc⟩
  obtain ⟨o2, q2, rfl, -, -⟩ := own_form r2.own
  replace p0 := p0.keep hc
  clear hc c1
  have c1 := p0.inp.cell
  go_wp2_with fail
  refine (h33 _ (hB.keep (hN ▸ p0.bel))).mono ?_
  rintro e w3 ⟨v3, us3, rfl, r3, hc⟩
  obtain ⟨o3, q3, rfl, -, -⟩ := own_form r3.own
  replace p0 := p0.keep hc
  replace r2 := r2.keep hc
  clear hc c1
  have c1 := p0.inp.cell
  have hlt3 := p0.res.lt
  have p4 := p0.keep (Below.al (Below.refl _ _) (.cells #[.slice o3 R.length q3] 47))
  have c4 := p4.inp.cell
  have m4 := NumAt.mk w3 47 (.slice o3 R.length q3) w3.heap.size rfl
  replace r2 := r2.keep (Below.al (Below.refl _ _) (.cells #[.slice o3 R.length q3] 47))
  replace r3 := r3.keep (Below.al (Below.refl _ _) (.cells #[.slice o3 R.length q3] 47))
  have hz4 : w3.heap.size < (w3.alloc (.cells #[.slice o3 R.length q3] 47)).heap.size := by simp
  clear p0
  go_wp2_with fail
  obtain ⟨M, hM⟩ : ∃ M, w3.heap.size = M := ⟨_, rfl⟩
  rw [hM] at m4 hlt3 hz4 ⊢
  generalize w3.alloc (.cells #[.slice o3 R.length q3] 47) = w4 at *
  clear c1 c4
  refine (h34 _ (hB.keep (hN ▸ p4.bel))).mono ?_
  rintro e w5 ⟨hc, hm⟩
  obtain ⟨ro, rn, rc, rfl, t5⟩ := HPK.out _ _ hm
  replace p4 := p4.keep hc
  replace m4 := m4.keep hc
  replace r2 := r2.keep hc
  replace r3 := r3.keep hc
  clear hc hm hz4
  have c1 := p4.inp.cell
  go_wp2_with fail
  refine (h35 _ (hB.keep (hN ▸ p4.bel))).mono ?_
  rintro e w6 ⟨hc, hm⟩
  obtain ⟨so, sn, sc, rfl, t6⟩ := HPK.out _ _ hm
  replace p4 := p4.keep hc
  replace m4 := m4.keep hc
  replace r2 := r2.keep hc
  replace r3 := r3.keep hc
  replace t5 : Bts _ _ _ := t5.keep hc
  clear hc hm c1
  have c1 := m4.cell
  go_wp2_with fail
  refine (same_any _ _ us2 us3 R R _ r2.sli.1 r2.sli.2 r3.sli.1 r3.sli.2).mono ?_
  rintro e w7 ⟨rfl, hc⟩
  rw [beq_self_eq_true]
  replace p4 := p4.keep hc
  replace m4 := m4.keep hc
  replace r3 := r3.keep hc
  have k5 := conv_str (l := rv) (Sli.keep t5 hc)
  have k6 := conv_str (l := rv) (Sli.keep t6 hc)
  clear hc c1 r2 t5 t6
  have b8 := Below.al (Below.al (Below.refl _ w7) (.cells #[.int .i64 0] 3)) (.cells #[.int .i64 0] 3)
  have p8 := p4.keep b8
  have m8 := m4.keep b8
  have r8 := r3.keep b8
  have i8 := (NumAt.mk w7 3 (.int .i64 0) w7.heap.size rfl).keep (Below.al (Below.refl _ _) (.cells #[.int .i64 0] 3))
  have j8 := NumAt.mk (w7.alloc (.cells #[.int .i64 0] 3)) 3 (.int .i64 0) (w7.heap.size + 1) (by simp)
  have hlt8 := p4.res.lt
  have c1 := p8.inp.cell
  clear b8 r3 m4 p4
  go_wp2_with fail
  obtain ⟨Ii, hIi⟩ : ∃ Ii, w7.heap.size = Ii := ⟨_, rfl⟩
  rw [hIi] at i8 j8 hlt8 ⊢
  generalize (w7.alloc (.cells #[.int .i64 0] 3)).alloc (.cells #[.int .i64 0] 3) = w8 at *
  clear c1 k5 k6
  have hA := all_any _ l _ (hB.keep (hN ▸ p8.bel))
  refine hA.mono ?_
  rintro e w9 ⟨Bx, rfl, hK9, hBx, hc⟩
  replace p8 := p8.keep hc
  replace m8 := m8.keep hc
  replace r8 := r8.keep hc
  replace i8 := i8.keep hc
  replace j8 := j8.keep hc
  have hjlt := j8.lt
  clear hc hBx hA
  go_wp2_with fail
  obtain ⟨B, rB⟩ : ∃ B, RI B w9 (.slice o3 R.length q3) us3 R := ⟨_, r8⟩
  have hw9 : N < w9.heap.size := p8.inp.lt
  have hjz : Ii + 1 < w9.heap.size := hjlt
  clear r8 h32 h33 h34 hlt3
  refine wp_rangeFunc_E (gf := 55) (lb := #[.pointer (some ⟨Bx, 0, none⟩)]) rfl (enters_of Try.func55 (by kernel_rfl) rfl) (hseq Bx) (fun k args A h => by obtain ⟨r, s, rfl, -⟩ := h; rfl) (fun k args A C h hk => h.kc hk)
    (fun k W => FI N M Ii (Ii + 1) Bx w (.slice ao l.length cap) left l B R (.slice o3 R.length q3) us3 k W)
    (fun c k W => c = .exit 0 ∧ FI N M Ii (Ii + 1) Bx w (.slice ao l.length cap) left l B R (.slice o3 R.length q3) us3 k W ∧ ((k : Int) = left))
    (fun k A h => h.all) (fun k A C h hb hk => h.kc hk (hb.mono (by omega))) (fun c k A C h hb hk => ⟨h.1, h.2.1.kc hk (hb.mono (by omega)), h.2.2⟩)
    ⟨p8, m8, i8, j8, rB, hK9⟩ (fun k args => { tmps := #[.slice ao l.length cap, .int .i64 left, .pointer (some { block := N, off := 0 }), .pointer (some { block := N + 1, off := 0 }), .pointer (some { block := N + 1 + 1, off := 0 }), .slice o2 R.length q2, .int .i64 (G : Int), .pointer (some { block := M, off := 0 }), .int .i64 (G : Int), .slice ro rn rc, .int .i64 nv, .bool bv, .slice so sn sc, .int .i64 nv, .bool bv, .pointer (some { block := Ii, off := 0 }), .pointer (some { block := Ii + 1, off := 0 }), arg0 args, arg1 args, undef, undef, undef, .bool true, .bool false, .slice ao l.length cap, .int .i64 (l.length : Int), .bool (decide ((600 : Int) < (l.length : Int))), .tuple #[.slice o2 R.length q2, .int .i64 (G : Int)], .slice ao l.length cap, .tuple #[.slice o2 R.length q2, .int .i64 (G : Int)], .slice o2 R.length q2, .int .i64 (G : Int), .tuple #[.slice o3 R.length q3, .int .i64 (G : Int)], .slice ao l.length cap, .tuple #[.slice o3 R.length q3, .int .i64 (G : Int)], .slice o3 R.length q3, .int .i64 (G : Int), .tuple #[.slice ro rn rc, .int .i64 nv, .bool bv], .slice ao l.length cap, .tuple #[.slice ro rn rc, .int .i64 nv, .bool bv], .slice ro rn rc, .int .i64 nv, .bool bv, .tuple #[.slice so sn sc, .int .i64 nv, .bool bv], .slice ao l.length cap, .tuple #[.slice so sn sc, .int .i64 nv, .bool bv], .slice so sn sc, .int .i64 nv, .bool bv, .slice o2 R.length q2, .slice o3 R.length q3, .bool true, .bool false, .bool false, .int .i64 (G : Int), .int .i64 (G : Int), .bool false, .bool false, .bool false, .slice ro rn rc, .string { data := rv.toArray }, .slice so sn sc, .string { data := rv.toArray }, .bool false, .bool false, .bool false, .int .i64 nv, .int .i64 nv, .bool false, .bool false, .bool false, .bool bv, .bool bv, .bool false, .bool false, .slice ao l.length cap, .func (.func 55) #[] #[.pointer (some { block := Bx, off := 0 })], arg0 args, arg1 args, undef, undef, undef, undef, undef, undef, undef, undef, undef, undef, undef, undef, undef, undef, undef, undef, undef, undef, undef, undef, undef, undef, undef, undef, undef, undef, undef, undef, undef, undef, undef, undef, undef, undef, undef, undef, undef, undef, undef, undef, undef, undef, undef, undef], defers := [] }) ?assign ?body ?done ?stop
  case assign => as_aux_lemma =>
    intro L k args W K hE hK
    obtain ⟨r, s, rfl, hs, hBr⟩ := HAE.out _ _ _ hE
    have HK := Lib.hid hK
    clear hK
    gi_wp2
    exact HK.out
  case body => as_aux_lemma =>
    rintro L k args W hkN hI hE hz
    obtain ⟨r, s, rfl, hs, hBr⟩ := HAE.out _ _ _ hE
    obtain ⟨s', m, a1, a2, a3, a4, a5⟩ := HA.out k hkN
    obtain rfl : s = s' := by rw [hs] at a2; exact Option.some.inj a2
    obtain ⟨hp1, hp2⟩ := HP.out k (by omega)
    have hgs : R.getD k [] = s := by rw [List.getD_eq_getElem?_getD, a2]; rfl
    obtain ⟨V, hV, hBV⟩ := cut_l (P := Try.prog) Try.underlying22 Try.size5 ao l.length cap (Fr.pos l k) hp1
    have hF := fun W' (hw' : Bts W' (.slice ao l.length cap) l) => h35' V (l.drop (Fr.pos l k)) W' (Bts.drop (hBV W' _ hw' (by simp))) (by rw [List.length_drop]; omega)
    rw [a1] at hF
    simp only at hF
    have HN := Lib.hid a3
    have hm : Fr.pos l k + m ≤ l.length := by omega
    obtain ⟨rb, roff, rn', rc', rfl, -⟩ := id hBr.2
    obtain ⟨mo, mf, u, rfl, -, cu, tu⟩ := Parts.at hI.row.sli.1 hI.row.sli.2 hkN
    rw [hgs] at tu
    obtain ⟨uo, uc, rfl, -, -, -⟩ := tu.form
    have kr := conv_str (Sli.drew hBr.1)
    have ku := conv_str (Sli.drew tu)
    have cN := hI.p0.inp.cell
    have cL := hI.p0.lft.cell
    have cM := hI.mm.cell
    have cI := hI.ii.cell
    have cA := hI.ia.cell
    have fI := hI.ii.froz
    have fA := hI.ia.froz
    have hkR : decide ((R.length : Int) ≤ (k : Int)) = false := decide_eq_false (by omega)
    have hkR3 : decide (R.length ≤ k) = false := decide_eq_false (by omega)
    have hkR2 : (k : Int) < (R.length : Int) := by omega
    simp only [arg0_lit, arg1_lit]
    clear a1 a2 a3 a5 hBV hE hgs tu
    gi_wp2_with fail
    refine wpIn_region_round (S := fun w' => w' = W.drew) (by kernel_rfl) (by kernel_rfl) (fun ⟨_, _, h⟩ => h) rfl (fun _ => ?_)
    first
      | (refine wpAnyH_take (i := 0) (oi := { dst := _, op := _, type := _, pos := _, after := _, guard := _ }) (v := ?vq0) rfl (by kernel_rfl) (by kernel_rfl) (by kernel_rfl) (fun _ _ _ h => h) (Or.inl ⟨by rfl, ?yq0⟩) rfl ?rq0; (case yq0 => intro w hSw; subst hSw; go_simp <;> with_reducible rfl); simp only [Act.put, List.setIfInBounds_toArray, List.set_cons_zero, List.set_cons_succ])
      | (refine wpAnyH_take (i := 0) (oi := { dst := _, op := _, type := _, pos := _, after := _, guard := _ }) (v := undef) rfl (by kernel_rfl) (by kernel_rfl) (by kernel_rfl) (fun _ _ _ h => h) (Or.inr ⟨by rfl, rfl⟩) rfl ?rq0; simp only [Act.put, List.setIfInBounds_toArray, List.set_cons_zero, List.set_cons_succ])
    first
      | (refine wpAnyH_take (i := 1) (oi := { dst := _, op := _, type := _, pos := _, after := _, guard := _ }) (v := ?vq1) rfl (by kernel_rfl) (by kernel_rfl) (by kernel_rfl) (fun _ _ _ h => h) (Or.inl ⟨by rfl, ?yq1⟩) rfl ?rq1; (case yq1 => intro w hSw; subst hSw; go_simp <;> with_reducible rfl); simp only [Act.put, List.setIfInBounds_toArray, List.set_cons_zero, List.set_cons_succ])
      | (refine wpAnyH_take (i := 1) (oi := { dst := _, op := _, type := _, pos := _, after := _, guard := _ }) (v := undef) rfl (by kernel_rfl) (by kernel_rfl) (by kernel_rfl) (fun _ _ _ h => h) (Or.inr ⟨by rfl, rfl⟩) rfl ?rq1; simp only [Act.put, List.setIfInBounds_toArray, List.set_cons_zero, List.set_cons_succ])
    first
      | (refine wpAnyH_take (i := 2) (oi := { dst := _, op := _, type := _, pos := _, after := _, guard := _ }) (v := ?vq2) rfl (by kernel_rfl) (by kernel_rfl) (by kernel_rfl) (fun _ _ _ h => h) (Or.inl ⟨by rfl, ?yq2⟩) rfl ?rq2; (case yq2 => intro w hSw; subst hSw; go_simp <;> with_reducible rfl); simp only [Act.put, List.setIfInBounds_toArray, List.set_cons_zero, List.set_cons_succ])
      | (refine wpAnyH_take (i := 2) (oi := { dst := _, op := _, type := _, pos := _, after := _, guard := _ }) (v := undef) rfl (by kernel_rfl) (by kernel_rfl) (by kernel_rfl) (fun _ _ _ h => h) (Or.inr ⟨by rfl, rfl⟩) rfl ?rq2; simp only [Act.put, List.setIfInBounds_toArray, List.set_cons_zero, List.set_cons_succ])
    first
      | (refine wpAnyH_take (i := 3) (oi := { dst := _, op := _, type := _, pos := _, after := _, guard := _ }) (v := ?vq3) rfl (by kernel_rfl) (by kernel_rfl) (by kernel_rfl) (fun _ _ _ h => h) (Or.inl ⟨by rfl, ?yq3⟩) rfl ?rq3; (case yq3 => intro w hSw; subst hSw; go_simp <;> with_reducible rfl); simp only [Act.put, List.setIfInBounds_toArray, List.set_cons_zero, List.set_cons_succ])
      | (refine wpAnyH_take (i := 3) (oi := { dst := _, op := _, type := _, pos := _, after := _, guard := _ }) (v := undef) rfl (by kernel_rfl) (by kernel_rfl) (by kernel_rfl) (fun _ _ _ h => h) (Or.inr ⟨by rfl, rfl⟩) rfl ?rq3; simp only [Act.put, List.setIfInBounds_toArray, List.set_cons_zero, List.set_cons_succ])
    first
      | (refine wpAnyH_take (i := 4) (oi := { dst := _, op := _, type := _, pos := _, after := _, guard := _ }) (v := ?vq4) rfl (by kernel_rfl) (by kernel_rfl) (by kernel_rfl) (fun _ _ _ h => h) (Or.inl ⟨by rfl, ?yq4⟩) rfl ?rq4; (case yq4 => intro w hSw; subst hSw; go_simp <;> with_reducible rfl); simp only [Act.put, List.setIfInBounds_toArray, List.set_cons_zero, List.set_cons_succ])
      | (refine wpAnyH_take (i := 4) (oi := { dst := _, op := _, type := _, pos := _, after := _, guard := _ }) (v := undef) rfl (by kernel_rfl) (by kernel_rfl) (by kernel_rfl) (fun _ _ _ h => h) (Or.inr ⟨by rfl, rfl⟩) rfl ?rq4; simp only [Act.put, List.setIfInBounds_toArray, List.set_cons_zero, List.set_cons_succ])
    first
      | (refine wpAnyH_take (i := 5) (oi := { dst := _, op := _, type := _, pos := _, after := _, guard := _ }) (v := ?vq5) rfl (by kernel_rfl) (by kernel_rfl) (by kernel_rfl) (fun _ _ _ h => h) (Or.inl ⟨by rfl, ?yq5⟩) rfl ?rq5; (case yq5 => intro w hSw; subst hSw; go_simp <;> with_reducible rfl); simp only [Act.put, List.setIfInBounds_toArray, List.set_cons_zero, List.set_cons_succ])
      | (refine wpAnyH_take (i := 5) (oi := { dst := _, op := _, type := _, pos := _, after := _, guard := _ }) (v := undef) rfl (by kernel_rfl) (by kernel_rfl) (by kernel_rfl) (fun _ _ _ h => h) (Or.inr ⟨by rfl, rfl⟩) rfl ?rq5; simp only [Act.put, List.setIfInBounds_toArray, List.set_cons_zero, List.set_cons_succ])
    first
      | (refine wpAnyH_take (i := 6) (oi := { dst := _, op := _, type := _, pos := _, after := _, guard := _ }) (v := ?vq6) rfl (by kernel_rfl) (by kernel_rfl) (by kernel_rfl) (fun _ _ _ h => h) (Or.inl ⟨by rfl, ?yq6⟩) rfl ?rq6; (case yq6 => intro w hSw; subst hSw; go_simp <;> with_reducible rfl); simp only [Act.put, List.setIfInBounds_toArray, List.set_cons_zero, List.set_cons_succ])
      | (refine wpAnyH_take (i := 6) (oi := { dst := _, op := _, type := _, pos := _, after := _, guard := _ }) (v := undef) rfl (by kernel_rfl) (by kernel_rfl) (by kernel_rfl) (fun _ _ _ h => h) (Or.inr ⟨by rfl, rfl⟩) rfl ?rq6; simp only [Act.put, List.setIfInBounds_toArray, List.set_cons_zero, List.set_cons_succ])
    first
      | (refine wpAnyH_take (i := 7) (oi := { dst := _, op := _, type := _, pos := _, after := _, guard := _ }) (v := ?vq7) rfl (by kernel_rfl) (by kernel_rfl) (by kernel_rfl) (fun _ _ _ h => h) (Or.inl ⟨by rfl, ?yq7⟩) rfl ?rq7; (case yq7 => intro w hSw; subst hSw; go_simp <;> with_reducible rfl); simp only [Act.put, List.setIfInBounds_toArray, List.set_cons_zero, List.set_cons_succ])
      | (refine wpAnyH_take (i := 7) (oi := { dst := _, op := _, type := _, pos := _, after := _, guard := _ }) (v := undef) rfl (by kernel_rfl) (by kernel_rfl) (by kernel_rfl) (fun _ _ _ h => h) (Or.inr ⟨by rfl, rfl⟩) rfl ?rq7; simp only [Act.put, List.setIfInBounds_toArray, List.set_cons_zero, List.set_cons_succ])
    first
      | (refine wpAnyH_take (i := 8) (oi := { dst := _, op := _, type := _, pos := _, after := _, guard := _ }) (v := ?vq8) rfl (by kernel_rfl) (by kernel_rfl) (by kernel_rfl) (fun _ _ _ h => h) (Or.inl ⟨by rfl, ?yq8⟩) rfl ?rq8; (case yq8 => intro w hSw; subst hSw; go_simp <;> with_reducible rfl); simp only [Act.put, List.setIfInBounds_toArray, List.set_cons_zero, List.set_cons_succ])
      | (refine wpAnyH_take (i := 8) (oi := { dst := _, op := _, type := _, pos := _, after := _, guard := _ }) (v := undef) rfl (by kernel_rfl) (by kernel_rfl) (by kernel_rfl) (fun _ _ _ h => h) (Or.inr ⟨by rfl, rfl⟩) rfl ?rq8; simp only [Act.put, List.setIfInBounds_toArray, List.set_cons_zero, List.set_cons_succ])
    first
      | (refine wpAnyH_take (i := 9) (oi := { dst := _, op := _, type := _, pos := _, after := _, guard := _ }) (v := ?vq9) rfl (by kernel_rfl) (by kernel_rfl) (by kernel_rfl) (fun _ _ _ h => h) (Or.inl ⟨by rfl, ?yq9⟩) rfl ?rq9; (case yq9 => intro w hSw; subst hSw; go_simp <;> with_reducible rfl); simp only [Act.put, List.setIfInBounds_toArray, List.set_cons_zero, List.set_cons_succ])
      | (refine wpAnyH_take (i := 9) (oi := { dst := _, op := _, type := _, pos := _, after := _, guard := _ }) (v := undef) rfl (by kernel_rfl) (by kernel_rfl) (by kernel_rfl) (fun _ _ _ h => h) (Or.inr ⟨by rfl, rfl⟩) rfl ?rq9; simp only [Act.put, List.setIfInBounds_toArray, List.set_cons_zero, List.set_cons_succ])
    first
      | (refine wpAnyH_take (i := 10) (oi := { dst := _, op := _, type := _, pos := _, after := _, guard := _ }) (v := ?vq10) rfl (by kernel_rfl) (by kernel_rfl) (by kernel_rfl) (fun _ _ _ h => h) (Or.inl ⟨by rfl, ?yq10⟩) rfl ?rq10; (case yq10 => intro w hSw; subst hSw; go_simp <;> with_reducible rfl); simp only [Act.put, List.setIfInBounds_toArray, List.set_cons_zero, List.set_cons_succ])
      | (refine wpAnyH_take (i := 10) (oi := { dst := _, op := _, type := _, pos := _, after := _, guard := _ }) (v := undef) rfl (by kernel_rfl) (by kernel_rfl) (by kernel_rfl) (fun _ _ _ h => h) (Or.inr ⟨by rfl, rfl⟩) rfl ?rq10; simp only [Act.put, List.setIfInBounds_toArray, List.set_cons_zero, List.set_cons_succ])
    first
      | (refine wpAnyH_take (i := 11) (oi := { dst := _, op := _, type := _, pos := _, after := _, guard := _ }) (v := ?vq11) rfl (by kernel_rfl) (by kernel_rfl) (by kernel_rfl) (fun _ _ _ h => h) (Or.inl ⟨by rfl, ?yq11⟩) rfl ?rq11; (case yq11 => intro w hSw; subst hSw; go_simp <;> with_reducible rfl); simp only [Act.put, List.setIfInBounds_toArray, List.set_cons_zero, List.set_cons_succ])
      | (refine wpAnyH_take (i := 11) (oi := { dst := _, op := _, type := _, pos := _, after := _, guard := _ }) (v := undef) rfl (by kernel_rfl) (by kernel_rfl) (by kernel_rfl) (fun _ _ _ h => h) (Or.inr ⟨by rfl, rfl⟩) rfl ?rq11; simp only [Act.put, List.setIfInBounds_toArray, List.set_cons_zero, List.set_cons_succ])
    first
      | (refine wpAnyH_take (i := 12) (oi := { dst := _, op := _, type := _, pos := _, after := _, guard := _ }) (v := ?vq12) rfl (by kernel_rfl) (by kernel_rfl) (by kernel_rfl) (fun _ _ _ h => h) (Or.inl ⟨by rfl, ?yq12⟩) rfl ?rq12; (case yq12 => intro w hSw; subst hSw; go_simp <;> with_reducible rfl); simp only [Act.put, List.setIfInBounds_toArray, List.set_cons_zero, List.set_cons_succ])
      | (refine wpAnyH_take (i := 12) (oi := { dst := _, op := _, type := _, pos := _, after := _, guard := _ }) (v := undef) rfl (by kernel_rfl) (by kernel_rfl) (by kernel_rfl) (fun _ _ _ h => h) (Or.inr ⟨by rfl, rfl⟩) rfl ?rq12; simp only [Act.put, List.setIfInBounds_toArray, List.set_cons_zero, List.set_cons_succ])
    first
      | (refine wpAnyH_take (i := 13) (oi := { dst := _, op := _, type := _, pos := _, after := _, guard := _ }) (v := ?vq13) rfl (by kernel_rfl) (by kernel_rfl) (by kernel_rfl) (fun _ _ _ h => h) (Or.inl ⟨by rfl, ?yq13⟩) rfl ?rq13; (case yq13 => intro w hSw; subst hSw; go_simp <;> with_reducible rfl); simp only [Act.put, List.setIfInBounds_toArray, List.set_cons_zero, List.set_cons_succ])
      | (refine wpAnyH_take (i := 13) (oi := { dst := _, op := _, type := _, pos := _, after := _, guard := _ }) (v := undef) rfl (by kernel_rfl) (by kernel_rfl) (by kernel_rfl) (fun _ _ _ h => h) (Or.inr ⟨by rfl, rfl⟩) rfl ?rq13; simp only [Act.put, List.setIfInBounds_toArray, List.set_cons_zero, List.set_cons_succ])
    first
      | (refine wpAnyH_take (i := 14) (oi := { dst := _, op := _, type := _, pos := _, after := _, guard := _ }) (v := ?vq14) rfl (by kernel_rfl) (by kernel_rfl) (by kernel_rfl) (fun _ _ _ h => h) (Or.inl ⟨by rfl, ?yq14⟩) rfl ?rq14; (case yq14 => intro w hSw; subst hSw; go_simp <;> with_reducible rfl); simp only [Act.put, List.setIfInBounds_toArray, List.set_cons_zero, List.set_cons_succ])
      | (refine wpAnyH_take (i := 14) (oi := { dst := _, op := _, type := _, pos := _, after := _, guard := _ }) (v := undef) rfl (by kernel_rfl) (by kernel_rfl) (by kernel_rfl) (fun _ _ _ h => h) (Or.inr ⟨by rfl, rfl⟩) rfl ?rq14; simp only [Act.put, List.setIfInBounds_toArray, List.set_cons_zero, List.set_cons_succ])
    first
      | (refine wpAnyH_take (i := 15) (oi := { dst := _, op := _, type := _, pos := _, after := _, guard := _ }) (v := ?vq15) rfl (by kernel_rfl) (by kernel_rfl) (by kernel_rfl) (fun _ _ _ h => h) (Or.inl ⟨by rfl, ?yq15⟩) rfl ?rq15; (case yq15 => intro w hSw; subst hSw; go_simp <;> with_reducible rfl); simp only [Act.put, List.setIfInBounds_toArray, List.set_cons_zero, List.set_cons_succ])
      | (refine wpAnyH_take (i := 15) (oi := { dst := _, op := _, type := _, pos := _, after := _, guard := _ }) (v := undef) rfl (by kernel_rfl) (by kernel_rfl) (by kernel_rfl) (fun _ _ _ h => h) (Or.inr ⟨by rfl, rfl⟩) rfl ?rq15; simp only [Act.put, List.setIfInBounds_toArray, List.set_cons_zero, List.set_cons_succ])
    first
      | (refine wpAnyH_take (i := 16) (oi := { dst := _, op := _, type := _, pos := _, after := _, guard := _ }) (v := ?vq16) rfl (by kernel_rfl) (by kernel_rfl) (by kernel_rfl) (fun _ _ _ h => h) (Or.inl ⟨by rfl, ?yq16⟩) rfl ?rq16; (case yq16 => intro w hSw; subst hSw; go_simp <;> with_reducible rfl); simp only [Act.put, List.setIfInBounds_toArray, List.set_cons_zero, List.set_cons_succ])
      | (refine wpAnyH_take (i := 16) (oi := { dst := _, op := _, type := _, pos := _, after := _, guard := _ }) (v := undef) rfl (by kernel_rfl) (by kernel_rfl) (by kernel_rfl) (fun _ _ _ h => h) (Or.inr ⟨by rfl, rfl⟩) rfl ?rq16; simp only [Act.put, List.setIfInBounds_toArray, List.set_cons_zero, List.set_cons_succ])
    first
      | (refine wpAnyH_take (i := 17) (oi := { dst := _, op := _, type := _, pos := _, after := _, guard := _ }) (v := ?vq17) rfl (by kernel_rfl) (by kernel_rfl) (by kernel_rfl) (fun _ _ _ h => h) (Or.inl ⟨by rfl, ?yq17⟩) rfl ?rq17; (case yq17 => intro w hSw; subst hSw; go_simp <;> with_reducible rfl); simp only [Act.put, List.setIfInBounds_toArray, List.set_cons_zero, List.set_cons_succ])
      | (refine wpAnyH_take (i := 17) (oi := { dst := _, op := _, type := _, pos := _, after := _, guard := _ }) (v := undef) rfl (by kernel_rfl) (by kernel_rfl) (by kernel_rfl) (fun _ _ _ h => h) (Or.inr ⟨by rfl, rfl⟩) rfl ?rq17; simp only [Act.put, List.setIfInBounds_toArray, List.set_cons_zero, List.set_cons_succ])
    first
      | (refine wpAnyH_take (i := 18) (oi := { dst := _, op := _, type := _, pos := _, after := _, guard := _ }) (v := ?vq18) rfl (by kernel_rfl) (by kernel_rfl) (by kernel_rfl) (fun _ _ _ h => h) (Or.inl ⟨by rfl, ?yq18⟩) rfl ?rq18; (case yq18 => intro w hSw; subst hSw; go_simp <;> with_reducible rfl); simp only [Act.put, List.setIfInBounds_toArray, List.set_cons_zero, List.set_cons_succ])
      | (refine wpAnyH_take (i := 18) (oi := { dst := _, op := _, type := _, pos := _, after := _, guard := _ }) (v := undef) rfl (by kernel_rfl) (by kernel_rfl) (by kernel_rfl) (fun _ _ _ h => h) (Or.inr ⟨by rfl, rfl⟩) rfl ?rq18; simp only [Act.put, List.setIfInBounds_toArray, List.set_cons_zero, List.set_cons_succ])
    refine wpAnyH_done (by kernel_rfl) ?_ _
    have hId : FI N M Ii (Ii + 1) Bx w (.slice ao l.length cap) left l B R (.slice (some ⟨mo, mf, none⟩) R.length q3) us3 k W.drew := ⟨⟨hI.p0.inp, hI.p0.lft, hI.p0.res, hI.p0.bel.drew⟩, hI.mm, hI.ii, hI.ia, ⟨hI.row.own, hI.row.bts⟩, hI.all⟩
    have hzd : W.drew.heap.size = W.heap.size := rfl
    have hD1 : W.drew.heap[w9.heap.size]? = W.heap[w9.heap.size]? := rfl
    have hD2 : W.drew.heap[w9.heap.size + 1]? = W.heap[w9.heap.size + 1]? := rfl
    have cNd := hId.p0.inp.cell
    have cAd := hId.ia.cell
    clear cN cL cM cI cA fI fA hI kr ku cu hBr hkR hkR3
    generalize W.drew = Wd at *
    cases hlft : ((k : Int) + 1 == left) with
    | false =>
      gi_wp2_with (refine ⟨trivial, ?_⟩; gi_at_call 35; refine (callsIn_wide.2 (hF _ hId.all.2)).mono ?_; rintro e w2 ⟨hc, r2, rfl, -⟩; have hI2 := hId.keep hc; obtain ⟨hS1, hS2⟩ := hI2.step hB hN (by omega) (Nat.lt_succ_self Ii) ((Fr.pos l k : Int) + (m : Int)) ((k : Int) + 1) (by rw [HN.out]; simp) (by simp); have cA2 := hI2.ia.cell; have fA2 := hI2.ia.froz; have i1 := hI2.ii.setT hI2.ia (.inr (by omega)) (.int .i64 ((Fr.pos l k : Int) + (m : Int))); have cI2 := i1.cell; have fI2 := i1.froz; have cI3 := hS1.ii.cell; have cL3 := hS1.p0.lft.cell; rw [show ((k + 1 : Nat) : Int) = (k : Int) + 1 from by simp] at cI3; clear i1 hId)
      have hz2 := hc.size
      exact ⟨⟨by simp; omega, ((hS2 _ (by omega)).trans (hc.block _ (by omega))).trans hD1, ((hS2 _ (by omega)).trans (hc.block _ (by omega))).trans hD2⟩, hS1⟩
    | true =>
      gi_wp2_with (refine ⟨trivial, ?_⟩; gi_at_call 35; refine (callsIn_wide.2 (hF _ hId.all.2)).mono ?_; rintro e w2 ⟨hc, r2, rfl, -⟩; have hI2 := hId.keep hc; obtain ⟨hS1, hS2⟩ := hI2.step hB hN (by omega) (Nat.lt_succ_self Ii) ((Fr.pos l k : Int) + (m : Int)) ((k : Int) + 1) (by rw [HN.out]; simp) (by simp); have cA2 := hI2.ia.cell; have fA2 := hI2.ia.froz; have i1 := hI2.ii.setT hI2.ia (.inr (by omega)) (.int .i64 ((Fr.pos l k : Int) + (m : Int))); have cI2 := i1.cell; have fI2 := i1.froz; have cI3 := hS1.ii.cell; have cL3 := hS1.p0.lft.cell; rw [show ((k + 1 : Nat) : Int) = (k : Int) + 1 from by simp] at cI3; clear i1 hId)
      have hz2 := hc.size
      exact ⟨⟨by simp; omega, ((hS2 _ (by omega)).trans (hc.block _ (by omega))).trans hD1, ((hS2 _ (by omega)).trans (hc.block _ (by omega))).trans hD2⟩, rfl, hS1, by rw [← eq_of_beq hlft]; simp⟩
  case done => as_aux_lemma =>
    rintro D W hD hI hK
    have cI := hI.ii.cell
    have cL := hI.p0.lft.cell
    have cM := hI.mm.cell
    have fR := hI.p0.res.froz
    have cR := hI.p0.res.cell
    have hN2 : N + 1 + 1 < w9.heap.size := p8.res.lt
    have hK2 : (W.setCell ⟨N + 1 + 1, 0, none⟩ (.bool true)).heap[D]? = some (.deferred (some [])) := by
      rw [Below.heap_setCell _ _ _ _ (show D ≠ N + 1 + 1 by omega)]
      exact hK
    have o3 := hI.p0.res.set (.bool true)
    have bW := hI.p0.bel.setCell (p := ⟨N + 1 + 1, 0, none⟩) (by show N ≤ N + 1 + 1; omega) (.bool true)
    have hbD := Below.putObj (Below.refl w9.heap.size (W.setCell ⟨N + 1 + 1, 0, none⟩ (.bool true))) hD (.deferred none)
    have m3 := (o3.keepAt hbD (by omega)).cell
    clear hK hI o3 hbD
    cases hlft : ((R.length : Int) == left) with
    | false =>
      go_wp2_with fail
      have hbD := Below.putObj (Below.refl w9.heap.size (W.setCell ⟨N + 1 + 1, 0, none⟩ (.bool true))) hD (.deferred none)
      refine ⟨by simp, .inl ⟨_, _, rfl, run_takeDeferred hK2, ?_⟩⟩
      refine ⟨.bool true, ?_, rfl, by rw [hN]; exact bW.trans (hbD.mono (by omega))⟩
      simp [results, Try.results8, go_sem, m3]
    | true =>
      go_wp2_with fail
      have hbD := Below.putObj (Below.refl w9.heap.size (W.setCell ⟨N + 1 + 1, 0, none⟩ (.bool true))) hD (.deferred none)
      refine ⟨by simp, .inl ⟨_, _, rfl, run_takeDeferred hK2, ?_⟩⟩
      refine ⟨.bool true, ?_, rfl, by rw [hN]; exact bW.trans (hbD.mono (by omega))⟩
      simp [results, Try.results8, go_sem, m3]
  case stop => as_aux_lemma =>
    rintro D c k W hD hkN ⟨rfl, hI, hlf⟩ hK
    have cI := hI.ii.cell
    have cL := hI.p0.lft.cell
    have cM := hI.mm.cell
    have fR := hI.p0.res.froz
    have cR := hI.p0.res.cell
    have hN2 : N + 1 + 1 < w9.heap.size := p8.res.lt
    have hK2 : (W.setCell ⟨N + 1 + 1, 0, none⟩ (.bool true)).heap[D]? = some (.deferred (some [])) := by
      rw [Below.heap_setCell _ _ _ _ (show D ≠ N + 1 + 1 by omega)]
      exact hK
    have o3 := hI.p0.res.set (.bool true)
    have bW := hI.p0.bel.setCell (p := ⟨N + 1 + 1, 0, none⟩) (by show N ≤ N + 1 + 1; omega) (.bool true)
    have hbD := Below.putObj (Below.refl w9.heap.size (W.setCell ⟨N + 1 + 1, 0, none⟩ (.bool true))) hD (.deferred none)
    have m3 := (o3.keepAt hbD (by omega)).cell
    have hlft : (((k + 1 : Nat) : Int) == left) = true := by rw [hlf]; simp
    rw [hlf] at cI
    clear hK hI o3 hbD hlf hlft
    go_wp2_with fail
    have hbD := Below.putObj (Below.refl w9.heap.size (W.setCell ⟨N + 1 + 1, 0, none⟩ (.bool true))) hD (.deferred none)
    refine ⟨by simp, .inl ⟨_, _, rfl, run_takeDeferred hK2, ?_⟩⟩
    refine ⟨.bool true, ?_, rfl, by rw [hN]; exact bW.trans (hbD.mono (by omega))⟩
    simp [results, Try.results8, go_sem, m3]
end Go.Proofs.Ytlcnjinabfbglaa
