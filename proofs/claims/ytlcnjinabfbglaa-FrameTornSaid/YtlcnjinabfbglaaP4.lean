import Derived.Test.YtlcnjinabfbglaaP3
namespace Go.Proofs.Ytlcnjinabfbglaa
open Go.RowKit

/-- the bytes of a string -/
def sb (s : ByteArray) : List UInt8 := s.data.toList
theorem sb_len (s : ByteArray) : (sb s).length = s.size := by simp [sb]
theorem str_bts (w : World) (s : ByteArray) (cap : Nat) (fr : Nat × Nat) (h1 : s.size ≤ cap) (h2 : cap ≤ maxLen) :
    Bts (w.alloc (.cells (bytesRow s cap) 5 fr)) (.slice (some ⟨w.heap.size, 0, none⟩) s.size cap) (sb s) := by
  refine ⟨_, cap, by rw [List.length_map, sb_len], by rw [List.length_map, sb_len]; exact h1, h2, (fun h => by cases h), fun j u hu => ⟨_, rfl, ?_⟩⟩
  rw [Addr.add_lit, Nat.zero_add, World.cell?_alloc_mark]
  have hj := (List.getElem?_eq_some_iff.1 hu).1
  rw [List.length_map, sb_len] at hj
  unfold bytesRow
  rw [Array.getElem?_append_left (by simpa using hj)]
  rw [← hu]
  simp [sb]

/-- two rows laid side by side, ahead of Join -/
theorem two_parts {w1 : World} {a b : Value} {la lb : List UInt8} {n : Nat} {O : Obj} (ha : Bts w1 a la) (hb : Bts (w1.alloc O) b lb) (hn : n = w1.heap.size + 1) :
    Sli ((w1.alloc O).alloc (.cells #[a, b] 22)).drew (.slice (some ⟨n, 0, none⟩) 2 2) [a, b] ∧ Parts ((w1.alloc O).alloc (.cells #[a, b] 22)).drew [a, b] [la, lb] := by
  have hs : (w1.alloc O).heap.size = w1.heap.size + 1 := by simp
  have hA : Below w1.heap.size w1 ((w1.alloc O).alloc (.cells #[a, b] 22)) := ((Below.refl _ _).alloc (Nat.le_refl _) _).alloc (by omega) _
  have hB : Below (w1.alloc O).heap.size (w1.alloc O) ((w1.alloc O).alloc (.cells #[a, b] 22)) := (Below.refl _ _).alloc (Nat.le_refl _) _
  refine ⟨?_, rfl, fun i hi => ?_⟩
  · have := Sli.lit (w1.alloc O) [a, b] 22 (0, 0) (by unfold maxLen; simp)
    rw [hs, ← hn] at this
    exact this.drew
  · match i, hi with
    | 0, _ => exact ⟨a, rfl, (ha.keep hA).drew⟩
    | 1, _ => exact ⟨b, rfl, (hb.keep hB).drew⟩

set_option maxRecDepth 100000 in
theorem putText_any (s : ByteArray) (w : World) (hs : s.size ≤ 140737488351232) :
    Calls Try.prog 19 #[.string s] w fun e w' => ∃ v, Below w.heap.size w w' ∧ ((s.size ≤ 4096 ∧ e = .returned (.tuple #[v, .int .i64 0]) ∧ OwnB w.heap.size w' v (Pk.putText (sb s))) ∨ (4096 < s.size ∧ e = .returned (.tuple #[.slice none 0 0, .int .i64 3]))) := by
  have hcv := fun w => run_bytes_of_string (P := Try.prog) w 9 22 5 s Try.underlying9 Try.underlying22 Try.underlying5
  by_cases h : 4096 < s.size
  · have h' : (4096 : Int) < (s.size : Int) := by omega
    go_enter Try.func19, Try.ntmps19
    go_wp2_with fail
    go_ret2
    exact ⟨.slice none 0 0, Below.refl _ _, .inr ⟨h, rfl⟩⟩
  · have h' : ¬ (4096 : Int) < (s.size : Int) := by omega
    go_enter Try.func19, Try.ntmps19
    go_wp2_with (go_at_call 21; refine (put_any _ _ (by omega)).mono ?_; rintro e w1 ⟨v1, rfl, hown1, hb1⟩; obtain ⟨ao1, cap1, rfl, hn1, hlie1⟩ := hown1.form)
    have hcap := grownCap_ge w1 s.size 0 5
    have hcm := grownCap_le_maxLen w1 s.size 0 5 (by unfold maxLen; omega)
    have htp := two_parts (n := w1.heap.size + 1) hown1.bts (str_bts w1 s (grownCap w1 s.size 0 5) ((bytesRow s (grownCap w1 s.size 0 5)).size, (bytesRow s (grownCap w1 s.size 0 5)).size + 1) hcap hcm) rfl
    have hpl := Pk.put_len s.size
    refine (join_any _ _ [Pk.put s.size, sb s] _ htp.1 htp.2 (by simp [sb_len]; omega)).mono ?_
    rintro e w2 ⟨v2, rfl, hown2, hb2⟩
    clear htp hcv
    go_wp2_with fail
    go_ret2
    have hz := hb1.size
    refine ⟨v2, ((((hb1.alloc hz _).alloc (by simp; omega) _).drew).trans (hb2.mono (by simp; omega))), .inl ⟨by omega, rfl, ?_⟩⟩
    have e1 : [Pk.put s.size, sb s].flatten = Pk.putText (sb s) := by simp [Pk.putText, sb_len]
    rw [e1] at hown2
    exact hown2.mono (by simp; omega)

theorem refPutText_any (s : ByteArray) (w : World) (hs : s.size ≤ 140737488351232) :
    Calls Try.prog 20 #[.string s] w fun e w' => ∃ v, Below w.heap.size w w' ∧ ((s.size ≤ 4096 ∧ e = .returned (.tuple #[v, .int .i64 0]) ∧ OwnB w.heap.size w' v (Pk.putText (sb s))) ∨ (4096 < s.size ∧ e = .returned (.tuple #[.slice none 0 0, .int .i64 3]))) := by
  have hcv := fun w => run_bytes_of_string (P := Try.prog) w 9 22 5 s Try.underlying9 Try.underlying22 Try.underlying5
  by_cases h : 4096 < s.size
  · have h' : (4096 : Int) < (s.size : Int) := by omega
    go_enter Try.func20, Try.ntmps20
    go_wp2_with fail
    go_ret2
    exact ⟨.slice none 0 0, Below.refl _ _, .inr ⟨h, rfl⟩⟩
  · have h' : ¬ (4096 : Int) < (s.size : Int) := by omega
    go_enter Try.func20, Try.ntmps20
    go_wp2_with (first
      | (go_at_call 22; refine (refPut_any _ _ (by omega)).mono ?_; rintro e w1 ⟨v1, rfl, hown1, hb1⟩; obtain ⟨ao1, cap1, rfl, hn1, hlie1⟩ := hown1.form)
      | (at_builtin; refine wpList_app (w1.alloc (.cells (bytesRow s (grownCap w1 s.size 0 5)) 5 ((bytesRow s (grownCap w1 s.size 0 5)).size, (bytesRow s (grownCap w1 s.size 0 5)).size + 1))).drew rfl _ _ 22 rfl w.heap.size 5 (.int .u8 0) 1 Try.underlying22 Try.info5 (by decide) rfl (hown1.keep (((Below.refl _ _).alloc (Nat.le_refl _) _).drew)) rfl (some ⟨w1.heap.size, 0, none⟩) s.size (grownCap w1 s.size 0 5) ((sb s).map by8) rfl (fun h => by cases h) (by rw [List.length_map, sb_len]) (Sli.lie (str_bts w1 s (grownCap w1 s.size 0 5) _ (grownCap_ge w1 s.size 0 5) (grownCap_le_maxLen w1 s.size 0 5 (by unfold maxLen; omega))).drew) (by8_one _) (by have := Pk.put_len s.size; omega) (by have := hb1.size; simp; omega) ?_; intro v2 w2 hown2 hgr2 hbel2))
    go_ret2
    have hz := hb1.size
    refine ⟨v2, ((hb1.alloc hz _).drew).trans hbel2, .inl ⟨by omega, rfl, ?_⟩⟩
    unfold OwnB Pk.putText
    rw [List.length_append, List.map_append, sb_len]
    exact hown2
end Go.Proofs.Ytlcnjinabfbglaa
