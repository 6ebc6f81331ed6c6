import Derived.Test.YtlcnjinabfbglaaP8
namespace Go.Proofs.Ytlcnjinabfbglaa
open Go.RowKit

theorem putText_le' (s : ByteArray) (w : World) (hs : s.size ≤ 4096) :
    Calls Try.prog 19 #[.string s] w fun e w' => ∃ v, e = .returned (.tuple #[v, .int .i64 0]) ∧ Below w.heap.size w w' ∧ OwnB w.heap.size w' v (Pk.putText (sb s)) := by
  refine (putText_any s w (by omega)).mono ?_
  rintro e w1 ⟨v, hb, ⟨-, he, ho⟩ | ⟨h, -⟩⟩
  · exact ⟨v, he, hb, ho⟩
  · omega
theorem five_parts {w : World} {a b c d e : Value} {la lb lc ld le : List UInt8} (ha : Bts w a la) (hb : Bts w b lb) (hc : Bts w c lc) (hd : Bts w d ld) (he : Bts w e le) :
    Sli (w.alloc (.cells #[a, b, c, d, e] 22)) (.slice (some ⟨w.heap.size, 0, none⟩) 5 5) [a, b, c, d, e] ∧ Parts (w.alloc (.cells #[a, b, c, d, e] 22)) [a, b, c, d, e] [la, lb, lc, ld, le] := by
  have hB : Below w.heap.size w (w.alloc (.cells #[a, b, c, d, e] 22)) := (Below.refl _ _).alloc (Nat.le_refl _) _
  refine ⟨Sli.lit w [a, b, c, d, e] 22 (0, 0) (by unfold maxLen; simp), rfl, fun i hi => ?_⟩
  match i, hi with
  | 0, _ => exact ⟨a, rfl, ha.keep hB⟩
  | 1, _ => exact ⟨b, rfl, hb.keep hB⟩
  | 2, _ => exact ⟨c, rfl, hc.keep hB⟩
  | 3, _ => exact ⟨d, rfl, hd.keep hB⟩
  | 4, _ => exact ⟨e, rfl, he.keep hB⟩

/-- what the statement says of the row, in plain words -/
structure Back (L : List UInt8) (a b : Nat) (n : Nat) (m : Int) (s : List UInt8) (i j k : Nat) : Prop where
  one : Pk.take L a = some (n, i)
  two : Pk.take L i = some (Pk.zig m, j)
  three : Pk.takeText L j = some (s, k)
  ai : a < i
  ij : i < j
  jk : j < k
  kb : k + b = L.length
theorem put_pos (n : Nat) : 0 < (Pk.put n).length := Pk.putF_pos 9 n
theorem back (A B s : List UInt8) (n : Nat) (m : Int) (hn : n < 18446744073709551616) (h1 : -9223372036854775808 ≤ m) (h2 : m ≤ 9223372036854775807) (hs : s.length ≤ 4096) :
    ∃ i j k, Back (A ++ Pk.put n ++ Pk.put (Pk.zig m) ++ Pk.putText s ++ B) A.length B.length n m s i j k := by
  refine ⟨A.length + (Pk.put n).length, A.length + (Pk.put n).length + (Pk.put (Pk.zig m)).length, A.length + (Pk.put n).length + (Pk.put (Pk.zig m)).length + (Pk.putText s).length, ?_, ?_, ?_, ?_, ?_, ?_, ?_⟩
  · have := Pk.take_put A (Pk.put (Pk.zig m) ++ Pk.putText s ++ B) n hn A.length rfl
    simpa using this
  · have := Pk.take_put (A ++ Pk.put n) (Pk.putText s ++ B) (Pk.zig m) (Pk.zig_lt m h1 h2) _ rfl
    simpa using this
  · exact Pk.takeText_put (A ++ Pk.put n ++ Pk.put (Pk.zig m)) B s _ (by simp; omega) hs
  · have := put_pos n; omega
  · have := put_pos (Pk.zig m); omega
  · have := put_pos s.length; unfold Pk.putText; simp; omega
  · simp; omega

set_option maxRecDepth 100000 in
theorem packBack_great (n m : Int) (s : ByteArray) (va vb : Value) (A B : List UInt8) (c : Int) (w : World) (hA : Bts w va A) (hB : Bts w vb B) (h : 100 < s.size ∨ 100 < A.length ∨ 100 < B.length) :
    Calls Try.prog 6 #[.int .u64 n, .int .i64 m, .string s, va, vb, .int .i64 c] w fun e w' => e = .returned (.bool true) ∧ Below w.heap.size w w' := by
  obtain ⟨ao, ca, rfl, -, -, -⟩ := hA.form
  obtain ⟨bo, cb, rfl, -, -, -⟩ := hB.form
  have hq : (100 < (s.size : Int)) ∨ (¬ 100 < (s.size : Int) ∧ 100 < (A.length : Int)) ∨ (¬ 100 < (s.size : Int) ∧ ¬ 100 < (A.length : Int) ∧ 100 < (B.length : Int)) := by omega
  rcases hq with g1 | ⟨g1, g2⟩ | ⟨g1, g2, g3⟩
  all_goals
    go_enter Try.func6, Try.ntmps6
    go_wp2_with (go_at_call 18; refine (known01_any _).mono ?_; rintro e w1 ⟨rfl, hb1⟩)
    go_ret
    exact ⟨rfl, hb1⟩

set_option maxRecDepth 100000 in
set_option maxHeartbeats 2000000 in
theorem packBack_main (n : Nat) (m : Int) (s : ByteArray) (va vb : Value) (A B : List UInt8) (c : Int) (w : World) (hA : Bts w va A) (hB : Bts w vb B) (h : ¬ (100 < s.size ∨ 100 < A.length ∨ 100 < B.length))
    (hn : n < 18446744073709551616) (h1 : -9223372036854775808 ≤ m) (h2 : m ≤ 9223372036854775807) :
    Calls Try.prog 6 #[u64 n, .int .i64 m, .string s, va, vb, .int .i64 c] w fun e w' => e = .returned (.bool true) ∧ Below w.heap.size w w' := by
  obtain ⟨ao, ca, rfl, -, -, -⟩ := hA.form
  obtain ⟨bo, cb, rfl, -, -, -⟩ := hB.form
  have g1 : ¬ (100 : Int) < (s.size : Int) := by omega
  have g2 : ¬ (100 : Int) < (A.length : Int) := by omega
  have g3 : ¬ (100 : Int) < (B.length : Int) := by omega
  have hz := Pk.zig_lt m h1 h2
  obtain ⟨i, j, k, hBK⟩ := back A B (sb s) n m hn h1 h2 (by rw [sb_len]; omega)
  have hpl := Pk.put_len n
  have hpz := Pk.put_len (Pk.zig m)
  have hps := Pk.put_len (sb s).length
  have hss : (⟨(sb s).toArray⟩ : ByteArray) = s := by simp [sb]
  obtain ⟨L, hL⟩ : ∃ L, L = A ++ Pk.put n ++ Pk.put (Pk.zig m) ++ Pk.putText (sb s) ++ B := ⟨_, rfl⟩
  have hLL : L.length ≤ 1000 := by rw [hL]; simp [Pk.putText, sb_len] at hps ⊢; omega
  rw [← hL] at hBK
  have hfl : [A, Pk.put n, Pk.put (Pk.zig m), Pk.putText (sb s), B].flatten = L := by rw [hL]; simp
  clear hL
  go_enter Try.func6, Try.ntmps6
  go_wp2_with (go_at_call 18; refine (known01_any _).mono ?_; rintro e w1 ⟨rfl, hb1⟩)
  refine (putText_le' s _ (by omega)).mono ?_
  rintro e w2 ⟨v2, rfl, hc2, ho2⟩
  have hb2 := Below.call hb1 hc2
  go_wp2_with (go_at_call 21; refine (put_any n _ hn).mono ?_; rintro e w3 ⟨v3, rfl, ho3, hc3⟩; have hb3 := Below.call hb2 hc3)
  refine (putInt_any m _ h1 h2).mono ?_
  rintro e w4 ⟨v4, rfl, ho4, hc4⟩
  have hb4 := Below.call hb3 hc4
  have hp := five_parts (hA.keep hb4) (ho3.bts.keep hc4) ho4.bts ((ho2.bts.keep hc3).keep hc4) (hB.keep hb4)
  obtain ⟨ao2, cap2, rfl, -, -⟩ := ho2.form
  obtain ⟨ao3, cap3, rfl, -, -⟩ := ho3.form
  obtain ⟨ao4, cap4, rfl, -, -⟩ := ho4.form
  clear ho2 ho3 ho4 hc2 hc3 hc4 hb1 hb2 hb3
  go_wp2_with fail
  refine (join_any _ _ _ _ hp.1 hp.2 (by rw [hfl]; omega)).mono ?_
  rw [hfl]
  rintro e w5 ⟨v5, rfl, ho5, hc5⟩
  have hb5 := Below.call (Below.al hb4 _) hc5
  have hA5 := ho5.bts
  obtain ⟨lo, lcap, rfl, l1, l2, l3⟩ := hA5.form
  unfold maxLen at l2
  obtain ⟨b1, b2, b3, b4, b5, b6, b7⟩ := hBK
  have t1 := take_any _ L A.length _ hA5 (by omega) (by omega)
  have t2 := takeInt_any _ L i _ hA5 (by omega) (by omega)
  have t3 := takeText_any _ L j _ hA5 (by omega) (by omega)
  rw [b1] at t1
  rw [b2] at t2
  rw [b3] at t3
  unfold takeV at t1
  unfold takeIV at t2
  unfold takeTV at t3
  simp only [Pk.unzig_zig] at t1 t2 t3
  rw [hss] at t3
  have hkb : (L.length : Int) - (B.length : Int) = (k : Int) := by omega
  have HS := Lib.hid (And.intro b1 (And.intro b2 b3))
  have HF := Lib.hid hfl
  clear b1 b2 b3 hp hfl ho5 hc5 hb4
  go_wp2_with fail
  refine t1.mono ?_
  rintro e w6 ⟨rfl, rfl⟩
  go_wp2_with fail
  refine t2.mono ?_
  rintro e w6 ⟨rfl, rfl⟩
  go_wp2_with fail
  refine t3.mono ?_
  rintro e w6 ⟨rfl, rfl⟩
  clear t1 t2 t3 hss
  by_cases hcl : c < (A.length : Int)
  · go_wp2_with fail
    go_ret
    exact ⟨rfl, hb5⟩
  by_cases hck : (k : Int) ≤ c
  · go_wp2_with fail
    go_ret
    exact ⟨rfl, hb5⟩
  obtain ⟨c, rfl⟩ := Int.eq_ofNat_of_zero_le (show 0 ≤ c by omega)
  obtain ⟨V, hV, hBV⟩ := cut_h (P := Try.prog) Try.underlying22 Try.size5 lo L.length lcap c (by omega)
  have hS : Bts w5 V (L.take c) := Bts.take (hBV w5 _ hA5 (by simp; omega))
  have hcL : (L.take c).length = c := by rw [List.length_take]; omega
  have hcc : (c : Int) ≤ (lcap : Int) := by omega
  clear hBV
  have s1 := take_any _ (L.take c) A.length _ hS (by omega) (by omega)
  rw [Pk.take_cut L A.length n i c HS.out.1 (by omega)] at s1
  by_cases hci : c < i
  · have hci' : (c : Int) < (i : Int) := by omega
    rw [if_neg (by omega)] at s1
    go_wp2_with fail
    refine s1.mono ?_
    rintro e w6 ⟨rfl, rfl⟩
    unfold takeV
    go_wp2_with fail
    go_ret
    exact ⟨rfl, hb5⟩
  have s2 := takeInt_any _ (L.take c) i _ hS (by omega) (by omega)
  rw [Pk.take_cut L i (Pk.zig m) j c HS.out.2.1 (by omega)] at s2
  rw [if_pos (by omega)] at s1
  by_cases hcj : c < j
  · have hcj' : (c : Int) < (j : Int) := by omega
    rw [if_neg (by omega)] at s2
    go_wp2_with fail
    refine s1.mono ?_
    rintro e w6 ⟨rfl, rfl⟩
    unfold takeV
    go_wp2_with fail
    refine s2.mono ?_
    rintro e w6 ⟨rfl, rfl⟩
    unfold takeIV
    go_wp2_with fail
    go_ret
    exact ⟨rfl, hb5⟩
  have s3 := takeText_any _ (L.take c) j _ hS (by omega) (by omega)
  rw [Pk.takeText_cut L j k c (sb s) HS.out.2.2 (by omega) (by omega) (by omega)] at s3
  rw [if_pos (by omega)] at s2
  go_wp2_with fail
  refine s1.mono ?_
  rintro e w6 ⟨rfl, rfl⟩
  unfold takeV
  go_wp2_with fail
  refine s2.mono ?_
  rintro e w6 ⟨rfl, rfl⟩
  unfold takeIV
  go_wp2_with fail
  refine s3.mono ?_
  rintro e w6 ⟨rfl, rfl⟩
  unfold takeTV
  go_wp2_with fail
  go_ret
  exact ⟨rfl, hb5⟩
theorem packBack_all (n m : Int) (s : ByteArray) (va vb : Value) (A B : List UInt8) (c : Int) (w : World) (hA : Bts w va A) (hB : Bts w vb B) (h1 : (Lit.int .u64 n).wf = true) (h2 : (Lit.int .i64 m).wf = true) :
    Calls Try.prog 6 #[.int .u64 n, .int .i64 m, .string s, va, vb, .int .i64 c] w fun e w' => e = .returned (.bool true) ∧ Below w.heap.size w w' := by
  simp [Lit.wf, IntKind.min, IntKind.max, IntKind.signed, IntKind.bits] at h1 h2
  obtain ⟨n, rfl⟩ := Int.eq_ofNat_of_zero_le h1.1
  by_cases h : 100 < s.size ∨ 100 < A.length ∨ 100 < B.length
  · exact packBack_great n m s va vb A B c w hA hB h
  · exact packBack_main n m s va vb A B c w hA hB h (by omega) (by omega) (by omega)
end Go.Proofs.Ytlcnjinabfbglaa
