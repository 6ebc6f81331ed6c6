/- frame.All: what its iterator hands over. -/
import Derived.Test.YtlcnjinabfbglaaQ6
import Derived.Test.YtlcnjinabfbglaaRw
namespace Go.Proofs.Ytlcnjinabfbglaa
open Go.RowKit Go.Shelf
attribute [local go_sem] Oper.semAt_some

def NumAt (w : World) (b : Nat) (t : TypeId) (v : Value) : Prop := w.heap[b]? = some (.cells #[v] t (0, 0))
theorem NumAt.cell {w : World} {b : Nat} {t : TypeId} {v : Value} (h : NumAt w b t v) : w.cell? ⟨b, 0, none⟩ = some v := by rw [cell_of_row w b _ _ t (0, 0) h]; rfl
theorem NumAt.froz {w : World} {b : Nat} {t : TypeId} {v : Value} (h : NumAt w b t v) : w.frozen? ⟨b, 0, none⟩ = false := frozen_of_row w b 0 _ t h
theorem NumAt.lt {w : World} {b : Nat} {t : TypeId} {v : Value} (h : NumAt w b t v) : b < w.heap.size := (Array.getElem?_eq_some_iff.1 h).1
theorem NumAt.keep {w w' : World} {b : Nat} {t : TypeId} {v : Value} (h : NumAt w b t v) (hb : Below w.heap.size w w') : NumAt w' b t v := by
  unfold NumAt; rw [hb.block _ h.lt]; exact h
theorem NumAt.keepAt {w w' : World} {b N : Nat} {t : TypeId} {v : Value} (h : NumAt w b t v) (hb : Below N w w') (hl : b < N) : NumAt w' b t v := by
  unfold NumAt; rw [hb.block _ hl]; exact h
theorem NumAt.set {w : World} {b : Nat} {t : TypeId} {v : Value} (h : NumAt w b t v) (u : Value) : NumAt (w.setCell ⟨b, 0, none⟩ u) b t u := heap_setCell_same w b 0 _ t u h
theorem NumAt.other {w : World} {b : Nat} {t : TypeId} {v : Value} (h : NumAt w b t v) (a : Addr) (ha : b ≠ a.block) (u : Value) : NumAt (w.setCell a u) b t v := by
  unfold NumAt; rw [Below.heap_setCell _ _ _ _ ha]; exact h
theorem NumAt.mk (w : World) (t : TypeId) (v : Value) (b : Nat) (h : b = w.heap.size) : NumAt (w.alloc (.cells #[v] t)) b t v := by subst h; unfold NumAt World.alloc; simp
theorem Kc.num {A B : World} (h : Kc A B) {b : Nat} {t : TypeId} {v : Value} (hN : NumAt A b t v) : NumAt B b t v := h.2 b _ _ _ hN
theorem Kc.cell {A B : World} (h : Kc A B) {a : Addr} {u : Value} (hc : A.cell? a = some u) : B.cell? a = some u := by
  unfold World.cell? at hc ⊢
  cases hx : A.heap[a.block]? with
  | none => rw [hx] at hc; simp at hc
  | some o =>
    rw [hx] at hc
    cases o with
    | cells cs T fr => rw [h.2 _ _ _ _ hx]; exact hc
    | _ => simp at hc
theorem Kc.sli {A B : World} (h : Kc A B) {v : Value} {us : List Value} (hs : Sli A v us) : Sli B v us := by
  obtain ⟨ao, cap, hv, h1, h2, h3, h4⟩ := hs
  refine ⟨ao, cap, hv, h1, h2, h3, fun j u hu => ?_⟩
  obtain ⟨ad, ha, hc⟩ := h4 j u hu
  exact ⟨ad, ha, h.cell hc⟩
theorem Kc.bt {A B : World} (h : Kc A B) {v : Value} {l : List UInt8} (hs : Bt A v l) : Bt B v l := by
  obtain ⟨h1, b, off, n, cap, rfl, cs, fr, h2⟩ := hs
  exact ⟨h.sli h1, b, off, n, cap, rfl, cs, fr, h.2 _ _ _ _ h2⟩
/-- the iterator's own: the box with the bytes -/
def AllK (Bx : Nat) (v : Value) (l : List UInt8) (W : World) : Prop := NumAt W Bx 22 v ∧ Bts W v l
theorem AllK.keep {Bx : Nat} {v : Value} {l : List UInt8} {A B : World} (h : AllK Bx v l A) (hb : Below A.heap.size A B) : AllK Bx v l B := ⟨h.1.keep hb, h.2.keep hb⟩
theorem AllK.kc {Bx : Nat} {v : Value} {l : List UInt8} {A B : World} (h : AllK Bx v l A) (hb : Kc A B) : AllK Bx v l B := ⟨hb.num h.1, hb.sli h.2⟩
/-- what it hands over in round k -/
def AllE (l : List UInt8) (k : Nat) (args : Array Value) (W : World) : Prop := ∃ r s, args = #[.int .i64 (Fr.pos l k : Int), r] ∧ (Fr.scan l).1[k]? = some s ∧ Bt W r s
theorem AllE.kc {l : List UInt8} {k : Nat} {args : Array Value} {A B : World} (h : AllE l k args A) (hb : Kc A B) : AllE l k args B := by
  obtain ⟨r, s, h1, h2, h3⟩ := h
  exact ⟨r, s, h1, h2, hb.bt h3⟩
theorem all_any (v : Value) (l : List UInt8) (w : World) (hB : Bts w v l) :
    Calls Try.prog 37 #[v] w fun e w' => ∃ Bx, e = .returned (.func (.func 55) #[] #[.pointer (some ⟨Bx, 0, none⟩)]) ∧ AllK Bx v l w' ∧ w.heap.size ≤ Bx ∧ Below w.heap.size w w' := by
  obtain ⟨ao, cap, rfl, h1, h2, h3⟩ := hB.form
  go_enter Try.func37, Try.ntmps37
  go_wp2_with fail
  go_ret
  exact ⟨_, rfl, ⟨by unfold NumAt World.alloc; simp, hB.keep (Below.al (Below.refl _ _) _)⟩, Nat.le_refl _, Below.al (Below.refl _ _) _⟩
set_option maxRecDepth 100000 in
set_option maxHeartbeats 2000000 in
theorem all_seq (n : Nat) (hn : 1 ≤ n) (v : Value) (l : List UInt8) (hl : l.length ≤ 140737488351000) (Bx : Nat) :
    SeqE Fence.wide n Try.prog 55 #[.pointer (some ⟨Bx, 0, none⟩)] (AllE l) (Fr.scan l).1.length (AllK Bx v l) := fun L J Jx W hJK hJ hJx hY h0 => by
  have hV := (hJK _ _ h0).2
  obtain ⟨ao, cap, rfl, h1, h2, h3⟩ := hV.form
  unfold maxLen at h2
  have hat := Fr.scan_at l
  have hend := Fr.scan_end l
  have hple := Fr.pos_le l
  obtain ⟨N, hN⟩ : ∃ N, N = (Fr.scan l).1.length := ⟨_, rfl⟩
  rw [← hN] at hat hend hple hY ⊢
  have HA := Lib.hid hat
  have HE := Lib.hid hend
  have HP := Lib.hid hple
  have HY := Lib.hid hY
  clear hat hend hple hN hV hY
  refine callsIn_of_wp Try.func55 rfl trivial ?_ rfl
  simp only [Try.ntmps55, List.size_toArray, List.length_cons, List.length_nil, Nat.reduceAdd, Nat.reduceSub, Array.replicate_succ, Array.replicate_zero, List.push_toArray, List.append_toArray, List.nil_append, List.cons_append]
  gi_wp2_with fail
  gi_loopw [3] (fun i wr => ∃ k : Nat, k ≤ N ∧ i = .int .i64 (Fr.pos l k : Int) ∧ J k wr ∧ W.heap.size ≤ wr.heap.size) (fun i _ => l.length - (intOf i).toNat)
  case atStart => exact ⟨0, by omega, rfl, h0, Nat.le_refl _⟩
  case round =>
    obtain ⟨k, hk, rfl, hJk, hzr⟩ := hrel
    obtain ⟨hp1, hp2⟩ := HP.out k hk
    have hK := hJK _ _ hJk
    have cB := hK.1.cell
    obtain ⟨V, hV, hBV⟩ := cut_l (P := Try.prog) Try.underlying22 Try.size5 ao l.length cap (Fr.pos l k) hp1
    have hD : Bts wr V (l.drop (Fr.pos l k)) := Bts.drop (hBV wr _ hK.2 (by simp))
    have hF := first_any V _ wr hD (by rw [List.length_drop]; omega)
    clear hBV hD
    by_cases hlt : k < N
    · obtain ⟨s, m, a1, a2, a3, a4, a5⟩ := HA.out k hlt
      rw [a1] at hF
      simp only at hF
      have HN := Lib.hid a3
      have hm : Fr.pos l k + m ≤ l.length := by omega
      clear a1 a3 a5
      gi_wp2_with (refine ⟨trivial, ?_⟩; gi_at_call 34; refine (callsIn_wide.2 hF).mono ?_; rintro e w1 ⟨hc, r, rfl, hBr⟩; have hJ1 := hJ _ _ _ hJk hzr hc; have hz1 := Nat.le_trans hzr hc.size; obtain ⟨fn, tmps, assign, body, hy, hR⟩ := HY.out k w1 #[.int .i64 (Fr.pos l k : Int), r] hlt hJ1 ⟨r, s, rfl, a2, hBr⟩ hz1)
      refine hR.mono ?_
      rintro e W4 ⟨hz4, (⟨rfl, hJ4⟩ | ⟨rfl, hx4⟩)⟩
      · clear hy hR
        gi_wp2_with fail
        exact ⟨⟨k + 1, by omega, by rw [HN.out]; go_num, hJ4, by omega⟩, by simp [intOf]; omega⟩
      · clear hy hR
        gi_wp2_with fail
        refine bodyPost_ret (results_none rfl _ _ _) rfl ?_
        exact ⟨⟨_, rfl⟩, .inr ⟨_, hlt, hx4⟩⟩
    · obtain rfl : k = N := by omega
      rw [HE.out] at hF
      simp only at hF
      gi_wp2_with (refine ⟨trivial, ?_⟩; gi_at_call 34; refine (callsIn_wide.2 hF).mono ?_; rintro e w1 ⟨hc, rfl⟩; unfold noneFV; have hJ1 := hJ _ _ _ hJk hzr hc)
      refine ⟨nofun, ?_⟩
      gi_wp2_with fail
      refine bodyPost_ret (results_none rfl _ _ _) rfl ?_
      exact ⟨⟨_, rfl⟩, .inl hJ1⟩
end Go.Proofs.Ytlcnjinabfbglaa
