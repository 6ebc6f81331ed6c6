/- A record's entry. -/
import Derived.Test.YtlcnjinabfbglaaR3
namespace Go.Proofs.Ytlcnjinabfbglaa
open Go.RowKit
abbrev noEnt : Value := .agg #[.int .u64 0, .int .u64 0, .slice none 0 0]
/-- what Parse hands back -/
def ParseE (w w' : World) (b : List UInt8) (r : Ending) : Prop := Below w.heap.size w w' ∧ match Rp.parseE b with
  | none => r = .returned (.tuple #[noEnt, .int .i64 4])
  | some e => ∃ bv, r = .returned (.tuple #[.agg #[u64 e.idx, u64 e.term, bv], .int .i64 0]) ∧ Bt w' bv e.body
theorem takeText_none (l : List UInt8) (a : Nat) (h : Pk.take l a = none) : Pk.takeText l a = none := by unfold Pk.takeText; rw [h]
theorem parseE_1 (b : List UInt8) (h : Pk.take b 0 = none) : Rp.parseE b = none := by unfold Rp.parseE; rw [h]
theorem parseE_2 (b : List UInt8) (i a : Nat) (h : Pk.take b 0 = some (i, a)) (h2 : Pk.take b a = none) : Rp.parseE b = none := by unfold Rp.parseE; rw [h]; simp only; rw [h2]
theorem parseE_3 (b : List UInt8) (i a t n : Nat) (h : Pk.take b 0 = some (i, a)) (h2 : Pk.take b a = some (t, n)) (h3 : Pk.takeText b n = none) : Rp.parseE b = none := by unfold Rp.parseE; rw [h]; simp only; rw [h2]; simp only; rw [h3]
theorem parseE_4 (b : List UInt8) (i a t n : Nat) (s : List UInt8) (j : Nat) (h : Pk.take b 0 = some (i, a)) (h2 : Pk.take b a = some (t, n)) (h3 : Pk.takeText b n = some (s, j)) : Rp.parseE b = if j = b.length ∧ i ≠ 0 ∧ s.length ≤ 2000 then some ⟨i, t, s⟩ else none := by unfold Rp.parseE; rw [h]; simp only; rw [h2]; simp only; rw [h3]
theorem set3 {W : World} {N : Nat} {a b c : Value} (h : W.heap[N]? = some (.cells #[a, b, c] 79 (0, 0))) (x y z : Value) :
    (((W.setCell ⟨N, 0, none⟩ x).setCell ⟨N, 1, none⟩ y).setCell ⟨N, 2, none⟩ z).heap[N]? = some (.cells #[x, y, z] 79 (0, 0)) := by
  have h1 := heap_setCell_same W N 0 _ 79 x h
  have h2 := heap_setCell_same _ N 1 _ 79 y h1
  exact heap_setCell_same _ N 2 _ 79 z h2
theorem cells3 {W : World} {N : Nat} {a b c : Value} (h : W.heap[N]? = some (.cells #[a, b, c] 79 (0, 0))) : W.cell? ⟨N, 0, none⟩ = some a ∧ W.cell? ⟨N, 1, none⟩ = some b ∧ W.cell? ⟨N, 2, none⟩ = some c := by
  refine ⟨?_, ?_, ?_⟩ <;> (rw [cell_of_row W N _ _ 79 (0, 0) h]; rfl)
theorem below3 {N : Nat} {w W : World} (h : Below N w W) (x y z : Value) : Below N w (((W.setCell ⟨N, 0, none⟩ x).setCell ⟨N, 1, none⟩ y).setCell ⟨N, 2, none⟩ z) :=
  ((h.setCell (p := ⟨N, 0, none⟩) (Nat.le_refl _) x).setCell (p := ⟨N, 1, none⟩) (Nat.le_refl _) y).setCell (p := ⟨N, 2, none⟩) (Nat.le_refl _) z
theorem noEnt_row (w : World) : (w.alloc (.cells #[.int .u64 0, .int .u64 0, .slice none 0 0] 79)).heap[w.heap.size]? = some (.cells #[.int .u64 0, .int .u64 0, .slice none 0 0] 79 (0, 0)) := by unfold World.alloc; simp
set_option maxRecDepth 100000 in
set_option maxHeartbeats 4000000 in
theorem walParse_any (v : Value) (b : List UInt8) (w : World) (hB : Bts w v b) (hl : b.length ≤ 1000000) : Calls Try.prog 61 #[v] w fun r w' => ParseE w w' b r := by
  obtain ⟨ao, cap, rfl, h1, h2, h3⟩ := hB.form
  unfold maxLen at h2
  have hal := Below.al (Below.refl w.heap.size w) (.cells #[.int .u64 0, .int .u64 0, .slice none 0 0] 79)
  have hB1 := hB.keep hal
  have hrow := noEnt_row w
  unfold ParseE
  obtain ⟨R, hR⟩ : ∃ R, R = Rp.parseE b := ⟨_, rfl⟩
  rw [← hR]
  have HR := Lib.hid hR
  clear hR
  go_enter Try.func61, Try.ntmps61
  go_wp2_with fail
  obtain ⟨N, hN⟩ : ∃ N, w.heap.size = N := ⟨_, rfl⟩
  have hzN : N < (w.alloc (.cells #[.int .u64 0, .int .u64 0, .slice none 0 0] 79)).heap.size := by rw [← hN]; simp
  rw [hN] at hal hrow ⊢
  generalize w.alloc (.cells #[.int .u64 0, .int .u64 0, .slice none 0 0] 79) = W at *
  have c0 : W.cell? ⟨N, 0, none⟩ = some (.int .u64 0) := by rw [cell_of_row W _ 0 _ 79 (0, 0) hrow]; rfl
  have c1 : W.cell? ⟨N, 1, none⟩ = some (.int .u64 0) := by rw [cell_of_row W _ 1 _ 79 (0, 0) hrow]; rfl
  have c2 : W.cell? ⟨N, 2, none⟩ = some (.slice none 0 0) := by rw [cell_of_row W _ 2 _ 79 (0, 0) hrow]; rfl
  have f0 := frozen_of_row W N 0 _ 79 hrow
  have f1 := frozen_of_row W N 1 _ 79 hrow
  have f2 := frozen_of_row W N 2 _ 79 hrow
  have t1 := take_any _ b 0 W hB1 (Nat.zero_le _) (by omega)
  have HROW := Lib.hid hrow
  clear hrow
  refine t1.mono ?_
  clear t1
  rintro e w1 ⟨rfl, rfl⟩
  cases e1 : Pk.take b 0 with
  | none => as_aux_lemma =>
    have hR := HR.out
    rw [parseE_1 b e1] at hR
    subst hR
    have t1 := take_any _ b 0 W hB1 (Nat.zero_le _) (by omega)
    have t3 := takeText_any _ b 0 W hB1 (Nat.zero_le _) (by omega)
    rw [takeText_none b 0 e1] at t3
    rw [e1] at t1
    clear hB hB1 HR e1
    unfold takeV
    go_wp2_with (first
      | (go_at_call 26; refine t1.mono ?_; rintro e w1 ⟨rfl, rfl⟩; unfold takeV)
      | (go_at_call 28; refine t3.mono ?_; rintro e w1 ⟨rfl, rfl⟩; unfold takeTV))
    obtain ⟨m0, m1, m2⟩ := cells3 (set3 HROW.out (.int .u64 0) (.int .u64 0) (.slice none 0 0))
    exact bodyPost_ret (v := .tuple #[noEnt, .int .i64 4]) (by simp [results, Try.results61, go_sem, m0, m1, m2]) rfl ⟨below3 hal _ _ _, rfl⟩
  | some p =>
    obtain ⟨i, a⟩ := p
    have ha := Pk.take_le b 0 i a e1 (Nat.zero_le _)
    have hi64 := Pk.take_lt b 0 i a e1
    have t2 := take_any _ b a W hB1 ha.2 (by omega)
    have hTV : takeV (some (i, a)) = .tuple #[.int .u64 (i : Int), .int .i64 (a : Int), .int .i64 0] := rfl
    rw [hTV]
    clear hTV
    cases e2 : Pk.take b a with
    | none => as_aux_lemma =>
      have hR := HR.out
      rw [parseE_2 b i a e1 e2] at hR
      subst hR
      rw [e2] at t2
      have t3 := takeText_any _ b 0 W hB1 (Nat.zero_le _) (by omega)
      cases e3 : Pk.takeText b 0 with
      | none =>
        rw [e3] at t3
        clear hB hB1 HR e1 e2 e3
        go_wp2_with (first
          | (go_at_call 26; refine t2.mono ?_; rintro e w1 ⟨rfl, rfl⟩; unfold takeV)
          | (go_at_call 28; refine t3.mono ?_; rintro e w1 ⟨rfl, rfl⟩; unfold takeTV))
        obtain ⟨m0, m1, m2⟩ := cells3 (set3 HROW.out (.int .u64 0) (.int .u64 0) (.slice none 0 0))
        exact bodyPost_ret (v := .tuple #[noEnt, .int .i64 4]) (by simp [results, Try.results61, go_sem, m0, m1, m2]) rfl ⟨below3 hal _ _ _, rfl⟩
      | some q =>
        obtain ⟨s, j⟩ := q
        rw [e3] at t3
        clear hB hB1 HR e1 e2 e3
        go_wp2_with (first
          | (go_at_call 26; refine t2.mono ?_; rintro e w1 ⟨rfl, rfl⟩; unfold takeV)
          | (go_at_call 28; refine t3.mono ?_; rintro e w1 ⟨rfl, rfl⟩; unfold takeTV))
        obtain ⟨m0, m1, m2⟩ := cells3 (set3 HROW.out (.int .u64 0) (.int .u64 0) (.slice none 0 0))
        exact bodyPost_ret (v := .tuple #[noEnt, .int .i64 4]) (by simp [results, Try.results61, go_sem, m0, m1, m2]) rfl ⟨below3 hal _ _ _, rfl⟩
    | some p2 =>
      obtain ⟨t, n⟩ := p2
      have hn := Pk.take_le b a t n e2 ha.2
      have ht64 := Pk.take_lt b a t n e2
      have t3 := takeText_any _ b n W hB1 hn.2 (by omega)
      rw [e2] at t2
      have hTV : takeV (some (t, n)) = .tuple #[.int .u64 (t : Int), .int .i64 (n : Int), .int .i64 0] := rfl
      rw [hTV] at t2
      clear hTV
      cases e3 : Pk.takeText b n with
      | none => as_aux_lemma =>
        have hR := HR.out
        rw [parseE_3 b i a t n e1 e2 e3] at hR
        subst hR
        rw [e3] at t3
        clear hB hB1 HR e1 e2 e3
        go_wp2_with (first
          | (go_at_call 26; refine t2.mono ?_; rintro e w1 ⟨rfl, rfl⟩)
          | (go_at_call 28; refine t3.mono ?_; rintro e w1 ⟨rfl, rfl⟩; unfold takeTV))
        obtain ⟨m0, m1, m2⟩ := cells3 (set3 HROW.out (.int .u64 0) (.int .u64 0) (.slice none 0 0))
        exact bodyPost_ret (v := .tuple #[noEnt, .int .i64 4]) (by simp [results, Try.results61, go_sem, m0, m1, m2]) rfl ⟨below3 hal _ _ _, rfl⟩
      | some q =>
        obtain ⟨s, j⟩ := q
        rw [e3] at t3
        have hTV : takeTV (some (s, j)) = .tuple #[.string ⟨s.toArray⟩, .int .i64 (j : Int), .int .i64 0] := rfl
        rw [hTV] at t3
        clear hTV
        have hR := HR.out
        rw [parseE_4 b i a t n s j e1 e2 e3] at hR
        have hsl := (Pk.takeText_canon b n j s e3).2.1
        have hjl := (Pk.takeText_canon b n j s e3).2.2.2 hn.2
        clear hB hB1 HR e1 e2 e3
        by_cases hc : j = b.length ∧ i ≠ 0 ∧ s.length ≤ 2000
        · as_aux_lemma =>
          rw [if_pos hc] at hR
          subst hR
          obtain ⟨hj, hi0, hs2⟩ := hc
          subst hj
          have q2 : ((i : Int) == 0) = false := by rw [beq_eq_false_iff_ne]; omega
          have q3 : ¬ (2000 : Int) < (s.length : Int) := by omega
          have hcv := fun w => run_bytes_of_string (P := Try.prog) w 9 22 5 ⟨s.toArray⟩ Try.underlying9 Try.underlying22 Try.underlying5
          clear hi0 hs2
          go_wp2_with (first
            | (go_at_call 26; refine t2.mono ?_; rintro e w1 ⟨rfl, rfl⟩)
            | (go_at_call 28; refine t3.mono ?_; rintro e w1 ⟨rfl, rfl⟩))
          have hset := set3 HROW.out (u64 i) (u64 t) (.slice (some ⟨W.heap.size, 0, none⟩) s.length (grownCap W s.length 0 5))
          have hbel := below3 hal (u64 i) (u64 t) (.slice (some ⟨W.heap.size, 0, none⟩) s.length (grownCap W s.length 0 5))
          have hsz : (((W.setCell ⟨N, 0, none⟩ (u64 i)).setCell ⟨N, 1, none⟩ (u64 t)).setCell ⟨N, 2, none⟩ (.slice (some ⟨W.heap.size, 0, none⟩) s.length (grownCap W s.length 0 5))).heap.size = W.heap.size := by simp
          have hg := grownCap_ge W s.length 0 5
          have hgm := grownCap_le_maxLen W s.length 0 5 (by unfold maxLen; omega)
          generalize grownCap W s.length 0 5 = gc at *
          generalize ((W.setCell ⟨N, 0, none⟩ (u64 i)).setCell ⟨N, 1, none⟩ (u64 t)).setCell ⟨N, 2, none⟩ (.slice (some ⟨W.heap.size, 0, none⟩) s.length gc) = X at *
          have hbt := str_bt X s gc ((bytesRow ⟨s.toArray⟩ gc).size, (bytesRow ⟨s.toArray⟩ gc).size + 1) hg hgm
          rw [hsz] at hbt
          have hset2 : (X.alloc (.cells (bytesRow ⟨s.toArray⟩ gc) 5 ((bytesRow ⟨s.toArray⟩ gc).size, (bytesRow ⟨s.toArray⟩ gc).size + 1))).heap[N]? = some (.cells #[u64 i, u64 t, .slice (some ⟨W.heap.size, 0, none⟩) s.length gc] 79 (0, 0)) := by
            rw [(Below.al (Below.refl X.heap.size X) _).block N (by rw [hsz]; exact hzN)]
            exact hset
          obtain ⟨m0, m1, m2⟩ := cells3 hset2
          exact bodyPost_ret (v := .tuple #[.agg #[u64 i, u64 t, .slice (some ⟨W.heap.size, 0, none⟩) s.length gc], .int .i64 0]) (by simp [results, Try.results61, go_sem, m0, m1, m2]) rfl ⟨(hbel.alloc (by rw [hsz]; exact Nat.le_of_lt hzN) _).drew, _, rfl, hbt.drew⟩
        · as_aux_lemma =>
          rw [if_neg hc] at hR
          subst hR
          have hcase : j ≠ b.length ∨ (j = b.length ∧ i = 0) ∨ (j = b.length ∧ i ≠ 0 ∧ 2000 < s.length) := by omega
          clear hc
          rcases hcase with hj | ⟨hj, hi0⟩ | ⟨hj, hi0, hs2⟩
          · have q1 : ((j : Int) == (b.length : Int)) = false := by rw [beq_eq_false_iff_ne]; omega
            go_wp2_with (first
              | (go_at_call 26; refine t2.mono ?_; rintro e w1 ⟨rfl, rfl⟩)
              | (go_at_call 28; refine t3.mono ?_; rintro e w1 ⟨rfl, rfl⟩))
            obtain ⟨m0, m1, m2⟩ := cells3 (set3 HROW.out (.int .u64 0) (.int .u64 0) (.slice none 0 0))
            exact bodyPost_ret (v := .tuple #[noEnt, .int .i64 4]) (by simp [results, Try.results61, go_sem, m0, m1, m2]) rfl ⟨below3 hal _ _ _, rfl⟩
          · subst hj
            have q2 : ((i : Int) == 0) = true := by rw [beq_iff_eq]; omega
            clear hi0
            go_wp2_with (first
              | (go_at_call 26; refine t2.mono ?_; rintro e w1 ⟨rfl, rfl⟩)
              | (go_at_call 28; refine t3.mono ?_; rintro e w1 ⟨rfl, rfl⟩))
            obtain ⟨m0, m1, m2⟩ := cells3 (set3 HROW.out (.int .u64 0) (.int .u64 0) (.slice none 0 0))
            exact bodyPost_ret (v := .tuple #[noEnt, .int .i64 4]) (by simp [results, Try.results61, go_sem, m0, m1, m2]) rfl ⟨below3 hal _ _ _, rfl⟩
          · subst hj
            have q2 : ((i : Int) == 0) = false := by rw [beq_eq_false_iff_ne]; omega
            have q3 : (2000 : Int) < (s.length : Int) := by omega
            clear hi0
            go_wp2_with (first
              | (go_at_call 26; refine t2.mono ?_; rintro e w1 ⟨rfl, rfl⟩)
              | (go_at_call 28; refine t3.mono ?_; rintro e w1 ⟨rfl, rfl⟩))
            obtain ⟨m0, m1, m2⟩ := cells3 (set3 HROW.out (.int .u64 0) (.int .u64 0) (.slice none 0 0))
            exact bodyPost_ret (v := .tuple #[noEnt, .int .i64 4]) (by simp [results, Try.results61, go_sem, m0, m1, m2]) rfl ⟨below3 hal _ _ _, rfl⟩
end Go.Proofs.Ytlcnjinabfbglaa
