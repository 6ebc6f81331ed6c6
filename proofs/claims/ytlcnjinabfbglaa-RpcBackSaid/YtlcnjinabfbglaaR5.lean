/- A record's entry: the reference's. -/
import Derived.Test.YtlcnjinabfbglaaR4
namespace Go.Proofs.Ytlcnjinabfbglaa
open Go.RowKit
theorem rec_take (b : List UInt8) (i a t n : Nat) (s : List UInt8) (j : Nat) (h1 : Pk.take b 0 = some (i, a)) (h2 : Pk.take b a = some (t, n)) (h3 : Pk.takeText b n = some (s, j)) : Rp.record ⟨i, t, s⟩ = b.take j ∧ j ≤ b.length := by
  obtain ⟨c1, c2, c3⟩ := Pk.take_canon b 0 i a h1
  obtain ⟨d1, d2, d3⟩ := Pk.take_canon b a t n h2
  obtain ⟨e1, e2, e3, e4⟩ := Pk.takeText_canon b n j s h3
  have ha := (Pk.take_le b 0 i a h1 (Nat.zero_le _)).2
  have hn := (Pk.take_le b a t n h2 ha).2
  refine ⟨?_, e4 hn⟩
  unfold Rp.record
  simp only
  rw [Rp.take_next b (Nat.le_of_lt e3), Rp.take_next b (Nat.le_of_lt d3), d1, e1, ← c1, List.drop_zero, Nat.sub_zero, List.append_assoc]
theorem new_at (X : World) (o : Obj) (n : Nat) (hn : n = X.heap.size) : (X.alloc o).heap[n]? = some o := by subst hn; unfold World.alloc; simp
/-- by what it reads -/
theorem refParse_spec (b : List UInt8) (i a t n : Nat) (s : List UInt8) (j : Nat) (h1 : Pk.take b 0 = some (i, a)) (h2 : Pk.take b a = some (t, n)) (h3 : Pk.takeText b n = some (s, j)) :
    Rp.parseE b = if Rp.mayE ⟨i, t, s⟩ = true ∧ (Rp.record ⟨i, t, s⟩ == b) = true then some ⟨i, t, s⟩ else none := by
  obtain ⟨e, hj⟩ := rec_take b i a t n s j h1 h2 h3
  rw [parseE_4 b i a t n s j h1 h2 h3, e]
  have hb : ((b.take j == b) = true) ↔ j = b.length := by
    rw [beq_iff_eq]
    constructor
    · intro h
      have := congrArg List.length h
      rw [List.length_take] at this
      omega
    · rintro rfl; rw [List.take_length]
  have hm : Rp.mayE ⟨i, t, s⟩ = true ↔ i ≠ 0 ∧ s.length ≤ 2000 := by simp [Rp.mayE]
  by_cases hc : j = b.length ∧ i ≠ 0 ∧ s.length ≤ 2000
  · rw [if_pos hc, if_pos ⟨hm.2 hc.2, hb.2 hc.1⟩]
  · rw [if_neg hc, if_neg (fun hh => hc ⟨hb.1 hh.2, hm.1 hh.1⟩)]
/-- the result's cell and x, as they were laid -/
structure Z2 (N : Nat) (w W : World) : Prop where
  r : W.heap[N]? = some (.cells #[.int .u64 0, .int .u64 0, .slice none 0 0] 79 (0, 0))
  x : W.heap[N + 1]? = some (.cells #[.int .u64 0, .int .u64 0, .slice none 0 0] 79 (0, 0))
  bel : Below N w W
theorem Z2.lt {N : Nat} {w W : World} (h : Z2 N w W) : N + 1 < W.heap.size := (Array.getElem?_eq_some_iff.1 h.x).1
theorem Z2.keep {N : Nat} {w A C : World} (h : Z2 N w A) (hb : Below A.heap.size A C) : Z2 N w C :=
  ⟨(hb.block _ (by have := h.lt; omega)).trans h.r, (hb.block _ h.lt).trans h.x, h.bel.trans (hb.mono (by have := h.lt; omega))⟩
theorem Z2.facts {N : Nat} {w W : World} (h : Z2 N w W) : W.cell? ⟨N, 0, none⟩ = some (.int .u64 0) ∧ W.cell? ⟨N, 1, none⟩ = some (.int .u64 0) ∧ W.cell? ⟨N, 2, none⟩ = some (.slice none 0 0) ∧ W.frozen? ⟨N, 0, none⟩ = false ∧ W.frozen? ⟨N, 1, none⟩ = false ∧ W.frozen? ⟨N, 2, none⟩ = false ∧
    W.cell? ⟨N + 1, 0, none⟩ = some (.int .u64 0) ∧ W.cell? ⟨N + 1, 1, none⟩ = some (.int .u64 0) ∧ W.cell? ⟨N + 1, 2, none⟩ = some (.slice none 0 0) := by
  obtain ⟨a0, a1, a2⟩ := cells3 h.r
  obtain ⟨b0, b1, b2⟩ := cells3 h.x
  exact ⟨a0, a1, a2, frozen_of_row W N 0 _ 79 h.r, frozen_of_row W N 1 _ 79 h.r, frozen_of_row W N 2 _ 79 h.r, b0, b1, b2⟩
theorem Z2.new (w : World) : Z2 w.heap.size w ((w.alloc (.cells #[.int .u64 0, .int .u64 0, .slice none 0 0] 79)).alloc (.cells #[.int .u64 0, .int .u64 0, .slice none 0 0] 79)) := by
  refine ⟨?_, ?_, Below.al (Below.al (Below.refl _ _) _) _⟩
  · rw [(Below.al (Below.refl (w.alloc (.cells #[.int .u64 0, .int .u64 0, .slice none 0 0] 79)).heap.size _) _).block _ (by simp)]
    exact noEnt_row w
  · have := noEnt_row (w.alloc (.cells #[.int .u64 0, .int .u64 0, .slice none 0 0] 79))
    rwa [World.size_alloc] at this
set_option maxRecDepth 100000 in
set_option maxHeartbeats 4000000 in
theorem refWalParse_any (v : Value) (b : List UInt8) (w : World) (hB : Bts w v b) (hl : b.length ≤ 1000000) : Calls Try.prog 64 #[v] w fun r w' => ParseE w w' b r := by
  obtain ⟨ao, cap, rfl, h1, h2, h3⟩ := hB.form
  unfold maxLen at h2
  have hz := Z2.new w
  unfold ParseE
  obtain ⟨R, hR⟩ : ∃ R, R = Rp.parseE b := ⟨_, rfl⟩
  rw [← hR]
  have HR := Lib.hid hR
  clear hR
  go_enter Try.func64, Try.ntmps64
  go_wp2_with fail
  have hB1 := hB.keep hz.bel
  obtain ⟨N, hN⟩ : ∃ N, w.heap.size = N := ⟨_, rfl⟩
  rw [hN] at hz ⊢
  generalize (w.alloc (.cells #[.int .u64 0, .int .u64 0, .slice none 0 0] 79)).alloc (.cells #[.int .u64 0, .int .u64 0, .slice none 0 0] 79) = W at *
  refine (refTake_any _ b 0 W hB1 (Nat.zero_le _) (by omega)).mono ?_
  rintro e w1 ⟨rfl, hc⟩
  replace hz := hz.keep hc
  have hB2 := hB1.keep hc
  clear hc hB hB1
  cases e1 : Pk.take b 0 with
  | none => as_aux_lemma =>
    have hR := HR.out
    rw [parseE_1 b e1] at hR
    subst hR
    obtain ⟨a0, a1, a2, f0, f1, f2, x0, x1, x2⟩ := hz.facts
    unfold takeV
    go_wp2_with fail
    obtain ⟨m0, m1, m2⟩ := cells3 (set3 hz.r (.int .u64 0) (.int .u64 0) (.slice none 0 0))
    exact bodyPost_ret (v := .tuple #[noEnt, .int .i64 4]) (by simp [results, Try.results64, go_sem, m0, m1, m2]) rfl ⟨below3 hz.bel _ _ _, rfl⟩
  | some p =>
    obtain ⟨i, a⟩ := p
    have ha := Pk.take_le b 0 i a e1 (Nat.zero_le _)
    have hi64 := Pk.take_lt b 0 i a e1
    have hTV : takeV (some (i, a)) = .tuple #[.int .u64 (i : Int), .int .i64 (a : Int), .int .i64 0] := rfl
    rw [hTV]
    clear hTV
    go_wp2_with fail
    refine (refTake_any _ b a _ hB2 ha.2 (by omega)).mono ?_
    rintro e w2 ⟨rfl, hc⟩
    replace hz := hz.keep hc
    replace hB2 := hB2.keep hc
    clear hc
    cases e2 : Pk.take b a with
    | none => as_aux_lemma =>
      have hR := HR.out
      rw [parseE_2 b i a e1 e2] at hR
      subst hR
      obtain ⟨a0, a1, a2, f0, f1, f2, x0, x1, x2⟩ := hz.facts
      unfold takeV
      go_wp2_with fail
      obtain ⟨m0, m1, m2⟩ := cells3 (set3 hz.r (.int .u64 0) (.int .u64 0) (.slice none 0 0))
      exact bodyPost_ret (v := .tuple #[noEnt, .int .i64 4]) (by simp [results, Try.results64, go_sem, m0, m1, m2]) rfl ⟨below3 hz.bel _ _ _, rfl⟩
    | some p2 =>
      obtain ⟨t, n⟩ := p2
      have hn := Pk.take_le b a t n e2 ha.2
      have ht64 := Pk.take_lt b a t n e2
      have hTV : takeV (some (t, n)) = .tuple #[.int .u64 (t : Int), .int .i64 (n : Int), .int .i64 0] := rfl
      rw [hTV]
      clear hTV
      go_wp2_with fail
      refine (refTakeText_any _ b n _ hB2 hn.2 (by omega)).mono ?_
      rintro e w3 ⟨rfl, hc⟩
      replace hz := hz.keep hc
      replace hB2 := hB2.keep hc
      clear hc
      cases e3 : Pk.takeText b n with
      | none => as_aux_lemma =>
        have hR := HR.out
        rw [parseE_3 b i a t n e1 e2 e3] at hR
        subst hR
        obtain ⟨a0, a1, a2, f0, f1, f2, x0, x1, x2⟩ := hz.facts
        unfold takeTV
        go_wp2_with fail
        obtain ⟨m0, m1, m2⟩ := cells3 (set3 hz.r (.int .u64 0) (.int .u64 0) (.slice none 0 0))
        exact bodyPost_ret (v := .tuple #[noEnt, .int .i64 4]) (by simp [results, Try.results64, go_sem, m0, m1, m2]) rfl ⟨below3 hz.bel _ _ _, rfl⟩
      | some q =>
        obtain ⟨s, j⟩ := q
        have hTV : takeTV (some (s, j)) = .tuple #[.string ⟨s.toArray⟩, .int .i64 (j : Int), .int .i64 0] := rfl
        rw [hTV]
        clear hTV
        have hR := HR.out
        rw [refParse_spec b i a t n s j e1 e2 e3] at hR
        have hsl := (Pk.takeText_canon b n j s e3).2.1
        clear HR e1 e2 e3
        have hcv := fun w => run_bytes_of_string (P := Try.prog) w 9 22 5 ⟨s.toArray⟩ Try.underlying9 Try.underlying22 Try.underlying5
        go_wp2_with fail
        have hg := grownCap_ge w3 s.length 0 5
        have hgm := grownCap_le_maxLen w3 s.length 0 5 (by unfold maxLen; omega)
        generalize grownCap w3 s.length 0 5 = gc at *
        have hbt := str_bt w3 s gc ((bytesRow ⟨s.toArray⟩ gc).size, (bytesRow ⟨s.toArray⟩ gc).size + 1) hg hgm
        have b34 := (Below.al (Below.al (Below.refl _ w3) (.cells (bytesRow ⟨s.toArray⟩ gc) 5 ((bytesRow ⟨s.toArray⟩ gc).size, (bytesRow ⟨s.toArray⟩ gc).size + 1))) (.cells #[.int .u64 (i : Int), .int .u64 (t : Int), .slice (some ⟨w3.heap.size, 0, none⟩) s.length gc] 79)).drew
        have hbt4 := (hbt.k5 (K5.below (Below.al (Below.refl _ _) (.cells #[.int .u64 (i : Int), .int .u64 (t : Int), .slice (some ⟨w3.heap.size, 0, none⟩) s.length gc] 79)))).drew
        have hz4 := hz.keep b34
        have hB4 := hB2.keep b34
        have yrow : ((w3.alloc (.cells (bytesRow ⟨s.toArray⟩ gc) 5 ((bytesRow ⟨s.toArray⟩ gc).size, (bytesRow ⟨s.toArray⟩ gc).size + 1))).alloc (.cells #[.int .u64 (i : Int), .int .u64 (t : Int), .slice (some ⟨w3.heap.size, 0, none⟩) s.length gc] 79)).drew.heap[w3.heap.size + 1]? = some (.cells #[.int .u64 (i : Int), .int .u64 (t : Int), .slice (some ⟨w3.heap.size, 0, none⟩) s.length gc] 79 (0, 0)) := new_at _ _ _ (by simp)
        have hyN : w3.heap.size + 1 < ((w3.alloc (.cells (bytesRow ⟨s.toArray⟩ gc) 5 ((bytesRow ⟨s.toArray⟩ gc).size, (bytesRow ⟨s.toArray⟩ gc).size + 1))).alloc (.cells #[.int .u64 (i : Int), .int .u64 (t : Int), .slice (some ⟨w3.heap.size, 0, none⟩) s.length gc] 79)).drew.heap.size := (Array.getElem?_eq_some_iff.1 yrow).1
        obtain ⟨Y, hY⟩ : ∃ Y, w3.heap.size + 1 = Y := ⟨_, rfl⟩
        rw [hY] at yrow hyN ⊢
        generalize Value.slice (some ⟨w3.heap.size, 0, none⟩) s.length gc = bv at *
        generalize ((w3.alloc (.cells (bytesRow ⟨s.toArray⟩ gc) 5 ((bytesRow ⟨s.toArray⟩ gc).size, (bytesRow ⟨s.toArray⟩ gc).size + 1))).alloc (.cells #[.int .u64 (i : Int), .int .u64 (t : Int), bv] 79)).drew = w4 at *
        clear hz hB2 hbt b34 hcv hY hg hgm
        obtain ⟨bb, bo, bn, bc, rfl, -⟩ := id hbt4.2
        have hE : EvOk w4 ⟨i, t, .slice (some ⟨bb, bo, none⟩) bn bc, s⟩ := ⟨hbt4.1, hi64, ht64⟩
        cases hm : Rp.mayE ⟨i, t, s⟩ with
        | false => as_aux_lemma =>
          rw [hm, if_neg (by simp)] at hR
          subst hR
          refine (refRecord_bad _ w4 hE hm).mono ?_
          rintro e w5 ⟨c, hcc, rfl, hc⟩
          have hz5 := hz4.keep hc
          obtain ⟨a0, a1, a2, f0, f1, f2, x0, x1, x2⟩ := hz5.facts
          obtain ⟨m0, m1, m2⟩ := cells3 (set3 hz5.r (.int .u64 0) (.int .u64 0) (.slice none 0 0))
          have HM := Lib.hid (And.intro m0 (And.intro m1 m2))
          clear m0 m1 m2
          rcases hcc with rfl | rfl
          · go_wp2_with fail
            obtain ⟨m0, m1, m2⟩ := HM.out
            exact bodyPost_ret (v := .tuple #[noEnt, .int .i64 4]) (by simp [results, Try.results64, go_sem, m0, m1, m2]) rfl ⟨below3 hz5.bel _ _ _, rfl⟩
          · go_wp2_with fail
            obtain ⟨m0, m1, m2⟩ := HM.out
            exact bodyPost_ret (v := .tuple #[noEnt, .int .i64 4]) (by simp [results, Try.results64, go_sem, m0, m1, m2]) rfl ⟨below3 hz5.bel _ _ _, rfl⟩
        | true =>
          have hRO := refRecord_ok _ w4 hE hm
          rw [hm] at hR
          simp only [EV.ent] at hRO
          generalize Rp.record ⟨i, t, s⟩ = rc at *
          clear hm
          refine hRO.mono ?_
          rintro e w5 ⟨vr, rfl, ho, hc⟩
          have hz5 := hz4.keep hc
          have hB5 := hB4.keep hc
          have hbt5 := hbt4.k5 (K5.below hc)
          have yrow5 := (hc.block Y hyN).trans yrow
          obtain ⟨a0, a1, a2, f0, f1, f2, x0, x1, x2⟩ := hz5.facts
          obtain ⟨y0, y1, y2⟩ := cells3 yrow5
          have k1 := conv_str ho.bts
          have k2 := conv_str hB5
          obtain ⟨oo, oc, rfl, -, -⟩ := own_form ho
          clear hRO hz4 hB4 hbt4 yrow hE
          cases hq : (rc == b) with
          | false => as_aux_lemma =>
            rw [hq, if_neg (by simp)] at hR
            subst hR
            go_wp2_with fail
            obtain ⟨m0, m1, m2⟩ := cells3 (set3 hz5.r (.int .u64 0) (.int .u64 0) (.slice none 0 0))
            exact bodyPost_ret (v := .tuple #[noEnt, .int .i64 4]) (by simp [results, Try.results64, go_sem, m0, m1, m2]) rfl ⟨below3 hz5.bel _ _ _, rfl⟩
          | true => as_aux_lemma =>
            rw [hq, if_pos ⟨rfl, rfl⟩] at hR
            subst hR
            go_wp2_with fail
            have hset := set3 hz5.r (u64 i) (u64 t) (.slice (some ⟨bb, bo, none⟩) bn bc)
            obtain ⟨m0, m1, m2⟩ := cells3 hset
            refine bodyPost_ret (v := .tuple #[.agg #[u64 i, u64 t, .slice (some ⟨bb, bo, none⟩) bn bc], .int .i64 0]) (by simp [results, Try.results64, go_sem, m0, m1, m2]) rfl ⟨below3 hz5.bel _ _ _, _, rfl, hbt5.k5 ?_⟩
            intro j' cs fr hj
            have hne : j' ≠ N := by
              rintro rfl
              rw [hz5.r] at hj
              simp at hj
            rw [Below.heap_setCell _ _ _ _ hne, Below.heap_setCell _ _ _ _ hne, Below.heap_setCell _ _ _ _ hne]
            exact hj
end Go.Proofs.Ytlcnjinabfbglaa
