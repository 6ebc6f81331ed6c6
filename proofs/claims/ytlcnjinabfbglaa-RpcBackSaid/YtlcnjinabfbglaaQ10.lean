/- frame.Scan: the walk. -/
import Derived.Test.YtlcnjinabfbglaaQ9
namespace Go.Proofs.Ytlcnjinabfbglaa
open Go.RowKit Go.Shelf
attribute [local go_sem] Oper.semAt_some
/-- what Scan's loop keeps -/
structure SI (N : Nat) (w : World) (B Bx : Nat) (v : Value) (l : List UInt8) (R : List (List UInt8)) (k : Nat) (ov : Value) (us : List Value) (W : World) : Prop where
  inp : NumAt W N 22 v
  out : NumAt W (N + 1) 47 ov
  good : NumAt W (N + 1 + 1) 3 (.int .i64 (Fr.pos l k : Int))
  all : AllK Bx v l W
  row : RI B W ov us (R.take k)
  bel : Below N w W
theorem SI.kc {N : Nat} {w : World} {B Bx : Nat} {v : Value} {l : List UInt8} {R : List (List UInt8)} {k : Nat} {ov : Value} {us : List Value} {A C : World} (h : SI N w B Bx v l R k ov us A) (hk : Kc A C) (hb : Below N A C) : SI N w B Bx v l R k ov us C :=
  ⟨hk.num h.inp, hk.num h.out, hk.num h.good, h.all.kc hk, h.row.kc hk, h.bel.trans hb⟩
theorem SI.keep {N : Nat} {w : World} {B Bx : Nat} {v : Value} {l : List UInt8} {R : List (List UInt8)} {k : Nat} {ov : Value} {us : List Value} {A C : World} (h : SI N w B Bx v l R k ov us A) (hb : Below A.heap.size A C) : SI N w B Bx v l R k ov us C :=
  h.kc (Kc.below hb) (hb.mono (Nat.le_of_lt h.inp.lt))
theorem SI.step {N : Nat} {w : World} {B Bx : Nat} {v : Value} {l : List UInt8} {R : List (List UInt8)} {k : Nat} {ov ov' : Value} {us us' : List Value} {A w' : World} (h : SI N w B Bx v l R k ov us A)
    (hB : Bts w v l) (hN : w.heap.size = N) (hBx : Bx < B) (hBN : N + 3 ≤ Bx) (hr : RI B w' ov' us' (R.take (k + 1))) (ho : ∀ j, j < A.heap.size → ov.ownBlock ≠ some j → w'.heap[j]? = A.heap[j]?) (_hz : A.heap.size ≤ w'.heap.size) (hb : Below B A w') (hBA : B ≤ A.heap.size) (p : Int) (hp : (Fr.pos l (k + 1) : Int) = p) :
    SI N w B Bx v l R (k + 1) ov' us' ((w'.setCell ⟨N + 1, 0, none⟩ ov').setCell ⟨N + 1 + 1, 0, none⟩ (.int .i64 p)) ∧ (∀ j, N + 2 < j → j < B → ((w'.setCell ⟨N + 1, 0, none⟩ ov').setCell ⟨N + 1 + 1, 0, none⟩ (.int .i64 p)).heap[j]? = A.heap[j]?) := by
  have hob : ∀ j, j < B → w'.heap[j]? = A.heap[j]? := fun j hj => ho j (by omega) (fun e => by have := (h.row.own.lt j e).1; omega)
  have m1 : NumAt w' N 22 v := (hob N (by omega)).trans h.inp
  have m2 : NumAt w' (N + 1) 47 ov := (hob (N + 1) (by omega)).trans h.out
  have m3 : NumAt w' (N + 1 + 1) 3 (.int .i64 (Fr.pos l k : Int)) := (hob (N + 1 + 1) (by omega)).trans h.good
  have m4 : NumAt w' Bx 22 v := (hob Bx hBx).trans h.all.1
  have q1 := m1.other ⟨N + 1, 0, none⟩ (by simp) ov'
  have q2 := m2.set ov'
  have q3 := m3.other ⟨N + 1, 0, none⟩ (by simp) ov'
  have q4 := m4.other ⟨N + 1, 0, none⟩ (by show Bx ≠ N + 1; omega) ov'
  have r1 := hr.set m2 (by decide) (by omega) ov'
  have bel : Below N w ((w'.setCell ⟨N + 1, 0, none⟩ ov').setCell ⟨N + 1 + 1, 0, none⟩ (.int .i64 p)) := ((h.bel.trans (hb.mono (by omega))).setCell (p := ⟨N + 1, 0, none⟩) (by show N ≤ N + 1; omega) _).setCell (p := ⟨N + 1 + 1, 0, none⟩) (by show N ≤ N + 1 + 1; omega) _
  refine ⟨⟨q1.other _ (by show N ≠ N + 1 + 1; omega) _, q2.other _ (by show N + 1 ≠ N + 1 + 1; omega) _, by rw [hp]; exact q3.set _, ⟨q4.other _ (by show Bx ≠ N + 1 + 1; omega) _, hB.keep (by rw [hN]; exact bel)⟩, r1.set q3 (by decide) (by omega) _, bel⟩, fun j h1 h2 => ?_⟩
  rw [Below.heap_setCell _ _ _ _ (show j ≠ N + 1 + 1 by omega), Below.heap_setCell _ _ _ _ (show j ≠ N + 1 by omega), hob j h2]
def arg0 (a : Array Value) : Value := a.getD 0 undef
def arg1 (a : Array Value) : Value := a.getD 1 undef
theorem arg0_lit (x y : Value) : arg0 #[x, y] = x := rfl
theorem arg1_lit (x y : Value) : arg1 #[x, y] = y := rfl
theorem RI.mono {B C : Nat} {W : World} {ov : Value} {us : List Value} {rs : List (List UInt8)} (h : RI B W ov us rs) (hC : C ≤ B) : RI C W ov us rs := by
  refine ⟨⟨h.own.1, ?_⟩, h.bts⟩
  rcases h.own.2 with h0 | ⟨g, cap, cur, hv, hb, h1⟩
  · exact .inl h0
  · exact .inr ⟨g, cap, cur, hv, by omega, h1⟩
set_option maxRecDepth 100000 in
set_option maxHeartbeats 4000000 in
theorem scan_any (v : Value) (l : List UInt8) (w : World) (hB : Bts w v l) (hl : l.length ≤ 900000) :
    Calls Try.prog 32 #[v] w fun e w' => ∃ ov us, e = .returned (.tuple #[ov, .int .i64 ((Fr.scan l).2 : Int)]) ∧ RI w.heap.size w' ov us (Fr.scan l).1 ∧ Below w.heap.size w w' := by
  obtain ⟨ao, cap, rfl, h1, h2, h3⟩ := hB.form
  unfold maxLen at h2
  have hat := Fr.scan_at l
  have hple := Fr.pos_le l
  have hgood := Fr.scan_good l
  have hseq := all_seq 8 (by omega) (.slice ao l.length cap) l (by omega)
  have hAE : ∀ k args W, AllE l k args W → ∃ r s, args = #[.int .i64 (Fr.pos l k : Int), r] ∧ (Fr.scan l).1[k]? = some s ∧ Bt W r s := fun k args W h => h
  rw [hgood]
  clear hgood
  obtain ⟨R, hR⟩ : ∃ R, R = (Fr.scan l).1 := ⟨_, rfl⟩
  rw [← hR] at hat hple hseq ⊢
  simp only [← hR] at hAE
  have HA := Lib.hid hat
  have HP := Lib.hid hple
  have HAE := Lib.hid hAE
  clear hat hple hR hAE
  refine calls_marks Try.func32 rfl ?_
  simp only [Try.ntmps32, List.size_toArray, List.length_cons, List.length_nil, Nat.reduceAdd, Nat.reduceSub, Array.replicate_succ, Array.replicate_zero, List.push_toArray, List.append_toArray, List.nil_append, List.cons_append]
  have hb0 : Below w.heap.size w (((w.alloc (.cells #[.slice ao l.length cap] 22)).alloc (.cells #[.slice none 0 0] 47)).alloc (.cells #[.int .i64 0] 3)) := Below.al (Below.al (Below.al (Below.refl _ _) _) _) _
  have n1 := ((NumAt.mk w 22 (.slice ao l.length cap) w.heap.size rfl).keep (Below.al (Below.refl _ _) (.cells #[.slice none 0 0] 47))).keep (Below.al (Below.refl _ _) (.cells #[.int .i64 0] 3))
  have n2 := (NumAt.mk (w.alloc (.cells #[.slice ao l.length cap] 22)) 47 (.slice none 0 0) (w.heap.size + 1) (by simp)).keep (Below.al (Below.refl _ _) (.cells #[.int .i64 0] 3))
  have n3 := NumAt.mk ((w.alloc (.cells #[.slice ao l.length cap] 22)).alloc (.cells #[.slice none 0 0] 47)) 3 (.int .i64 0) (w.heap.size + 1 + 1) (by simp)
  have hA := all_any _ l _ (hB.keep hb0)
  go_wp2_with (go_at_call 37; refine hA.mono ?_; rintro e w1 ⟨Bx, rfl, hK1, hBx, hc⟩)
  replace n1 := n1.keep hc
  replace n2 := n2.keep hc
  replace n3 := n3.keep hc
  replace hb0 := Below.call hb0 hc
  clear hA hc
  have hBx3 : w.heap.size + 3 ≤ Bx := by simpa using hBx
  clear hBx
  obtain ⟨N, hN⟩ : ∃ N, w.heap.size = N := ⟨_, rfl⟩
  rw [hN] at n1 n2 n3 hb0 hBx3 ⊢
  have hBxl := hK1.1.lt
  have hlt3 := n3.lt
  refine wp_rangeFunc_E (gf := 55) (lb := #[.pointer (some ⟨Bx, 0, none⟩)]) rfl (enters_of Try.func55 (by kernel_rfl) rfl) (hseq Bx) (fun k args A h => by obtain ⟨r, s, rfl, -⟩ := h; rfl) (fun k args A B h hk => h.kc hk)
    (fun k W => ∃ ov us, SI N w (w1.heap.size + 2) Bx (.slice ao l.length cap) l R k ov us W)
    (fun _ _ _ => False)
    (fun k A h => by obtain ⟨ov, us, h⟩ := h; exact h.all)
    (fun k A B h hb hk => by obtain ⟨ov, us, h⟩ := h; exact ⟨ov, us, h.kc hk (hb.mono (by omega))⟩)
    (fun _ _ _ _ h _ _ => h)
    ⟨_, _, n1, n2, n3, hK1, RI.nil _ _, hb0⟩ (fun k args => { tmps := #[.slice ao l.length cap, .pointer (some ⟨N, 0, none⟩), .pointer (some ⟨N + 1, 0, none⟩), .pointer (some ⟨N + 1 + 1, 0, none⟩), arg0 args, arg1 args, undef, undef, undef, .slice ao l.length cap, .func (.func 55) #[] #[.pointer (some ⟨Bx, 0, none⟩)], arg0 args, arg1 args, undef, undef, undef, undef, undef, undef, undef, undef, undef, undef, undef, undef, undef, undef, undef, undef, undef], defers := [] }) ?assign ?body ?done ?stop
  case assign =>
    intro L k args W K hE hK
    obtain ⟨r, s, rfl, hs, hBr⟩ := HAE.out _ _ _ hE
    have HK := Lib.hid hK
    clear hK
    gi_wp2
    exact HK.out
  case body =>
    rintro L k args W hkN ⟨ov, us, hI⟩ hE hz
    obtain ⟨r, s, rfl, hs, hBr⟩ := HAE.out _ _ _ hE
    obtain ⟨s', m, a1, a2, a3, a4, a5⟩ := HA.out k hkN
    obtain rfl : s = s' := by rw [hs] at a2; exact Option.some.inj a2
    obtain ⟨hp1, hp2⟩ := HP.out k (by omega)
    obtain ⟨V, hV, hBV⟩ := cut_l (P := Try.prog) Try.underlying22 Try.size5 ao l.length cap (Fr.pos l k) hp1
    have hD : Bts W V (l.drop (Fr.pos l k)) := Bts.drop (hBV W _ hI.all.2 (by simp))
    have hF := first_any V _ W hD (by rw [List.length_drop]; omega)
    rw [a1] at hF
    simp only at hF
    have ht : R.take (k + 1) = R.take k ++ [s] := by rw [List.take_add_one, a2]; rfl
    have hlen : (R.take k).length = k := by rw [List.length_take]; omega
    have HT := Lib.hid ht
    have hlen1 : (R.take (k + 1)).length = k + 1 := by rw [List.length_take]; omega
    have HN := Lib.hid a3
    have hm : Fr.pos l k + m ≤ l.length := by omega
    obtain ⟨rb, roff, rn, rcap, rfl, hcs⟩ := id hBr.2
    have cI := hI.inp.cell
    simp only [arg0_lit, arg1_lit]
    clear a1 a2 a3 a5 ht hBV hD hE hcs
    gi_wp2_with (first
      | (gi_at_builtin; refine wpListIn_appR w2 rfl _ _ rfl (w1.heap.size + 2) hI2.row _ hBrk rfl rfl (by omega) (by have := hc.size; omega) ?_; intro ov' w3 hri ho3 hz3 hb3; rw [← HT.out] at hri; obtain ⟨oo, oc, e, -, -⟩ := own_form hri.own; rw [hlen1] at e; subst e; obtain ⟨hS3, hS4⟩ := hI2.step hB hN (by omega) hBx3 hri ho3 hz3 hb3 (by have := hc.size; omega) ((Fr.pos l k : Int) + (m : Int)) (by rw [HN.out]; simp); have n2' : NumAt w3 (N + 1) 47 ov := (ho3 (N + 1) (by have := hc.size; omega) (fun e => by have := (hI2.row.own.lt _ e).1; omega)).trans hI2.out; have n3' : NumAt w3 (N + 1 + 1) 3 (.int .i64 (Fr.pos l k : Int)) := (ho3 (N + 1 + 1) (by have := hc.size; omega) (fun e => by have := (hI2.row.own.lt _ e).1; omega)).trans hI2.good; have cO' := n2'.cell; have fO' := n2'.froz; have n3'' := n3'.other ⟨N + 1, 0, none⟩ (by simp) (Value.slice oo (k + 1) oc); have cG' := n3''.cell; have fG' := n3''.froz)
      | (refine ⟨trivial, ?_⟩; gi_at_call 34; refine (callsIn_wide.2 hF).mono ?_; rintro e w2 ⟨hc, r2, rfl, hBr2⟩; have hI2 := hI.keep hc; have hBrk := hBr.k5 (K5.below hc); have cO := hI2.out.cell; have fO := hI2.out.froz; have cG := hI2.good.cell; have fG := hI2.good.froz))
    have hz2 := hc.size
    exact ⟨⟨by simp; omega, (hS4 _ (by omega) (by omega)).trans (hc.block _ (by omega)), (hS4 _ (by omega) (by omega)).trans (hc.block _ (by omega))⟩, _, _, hS3⟩
  case done =>
    rintro D W hD ⟨ov, us, hI⟩ hK
    have hrow := hI.row
    rw [List.take_length] at hrow
    obtain ⟨oo, oc, rfl, -, -⟩ := own_form hrow.own
    have cO := hI.out.cell
    have fO := hI.out.froz
    have cG := hI.good.cell
    have fG := hI.good.froz
    go_wp2_with fail
    go_region
    have q2 := hI.out.set (.slice oo R.length oc)
    have q3 := hI.good.other ⟨N + 1, 0, none⟩ (by simp) (.slice oo R.length oc)
    have o2 := (q2.other ⟨N + 1 + 1, 0, none⟩ (by simp) (.int .i64 (Fr.pos l R.length : Int)))
    have o3 := q3.set (.int .i64 (Fr.pos l R.length : Int))
    have rW := (hrow.set hI.out (by decide) (by omega) (.slice oo R.length oc)).set q3 (by decide) (by omega) (.int .i64 (Fr.pos l R.length : Int))
    have bW := (hI.bel.setCell (p := ⟨N + 1, 0, none⟩) (by show N ≤ N + 1; omega) (.slice oo R.length oc)).setCell (p := ⟨N + 1 + 1, 0, none⟩) (by show N ≤ N + 1 + 1; omega) (.int .i64 (Fr.pos l R.length : Int))
    have hK2 : ((W.setCell ⟨N + 1, 0, none⟩ (.slice oo R.length oc)).setCell ⟨N + 1 + 1, 0, none⟩ (.int .i64 (Fr.pos l R.length : Int))).heap[D]? = some (.deferred (some [])) := by
      rw [Below.heap_setCell _ _ _ _ (show D ≠ N + 1 + 1 by omega), Below.heap_setCell _ _ _ _ (show D ≠ N + 1 by omega)]
      exact hK
    clear cO fO cG fG hI hrow hK q2 q3
    generalize (W.setCell ⟨N + 1, 0, none⟩ (.slice oo R.length oc)).setCell ⟨N + 1 + 1, 0, none⟩ (.int .i64 (Fr.pos l R.length : Int)) = W3 at *
    go_wp2_with fail
    refine ⟨by simp, .inl ⟨_, _, rfl, run_takeDeferred (w := W3.drew) hK2, ?_⟩⟩
    have hbD := Below.putObj (Below.refl w1.heap.size W3.drew) hD (.deferred none)
    have m2 := (NumAt.keepAt (w := W3.drew) o2 hbD (by omega)).cell
    have m3 := (NumAt.keepAt (w := W3.drew) o3 hbD (by omega)).cell
    have rW2 := RI.kc (W := W3.drew) (show RI (w1.heap.size + 2) W3.drew _ _ _ from ⟨rW.own, rW.bts⟩) (Kc.putObj (A := W3.drew) hK2 (fun _ _ _ h => by cases h) (.deferred none))
    refine ⟨.tuple #[.slice oo R.length oc, .int .i64 (Fr.pos l R.length : Int)], ?_, _, _, rfl, rW2.mono (by omega), by rw [hN]; exact bW.drew.trans (hbD.mono (by omega))⟩
    simp [results, Try.results32, go_sem, m2, m3]
  case stop =>
    rintro D c k W hD hkN hf
    exact hf.elim
end Go.Proofs.Ytlcnjinabfbglaa
