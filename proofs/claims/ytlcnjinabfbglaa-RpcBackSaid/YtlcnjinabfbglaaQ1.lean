/- Frame: the four bytes of a check, a record's frame. -/
import Derived.Test.YtlcnjinabfbglaaQ2
import Derived.Test.YtlcnjinabfbglaaW4
import Derived.Test.YtlcnjinabfbglaaFr4
namespace Go.Proofs.Ytlcnjinabfbglaa
open Go.RowKit

theorem by8_of (n : Nat) : by8 (UInt8.ofNat n) = .int .u8 ((n : Int) % 256) := by
  show Value.int .u8 ((UInt8.ofNat n).toNat : Int) = _
  rw [UInt8.toNat_ofNat']
  congr 1
theorem le4_vals (c : BitVec 32) : (Fr.le4 c.toNat).map by8 = [.int .u8 (U c % 256), .int .u8 (U c / 256 % 256), .int .u8 (U c / 65536 % 256), .int .u8 (U c / 16777216)] := by
  have h := U_hi c
  have h0 := U_lo c
  have e : U c / 16777216 % 256 = U c / 16777216 := by omega
  rw [← e]
  unfold Fr.le4 U
  simp only [List.map_cons, List.map_nil, by8_of, Int.natCast_ediv]
  rfl
set_option maxRecDepth 100000 in
theorem four_any (v : Value) (l : List UInt8) (w : World) (hB : Bts w v l) : Calls Try.prog 52 #[v] w fun e w' => ∃ v, e = .returned v ∧ Bts w' v (Fr.ck4 l) ∧ Below w.heap.size w w' := by
  obtain ⟨m, hm⟩ : ∃ m, m = masked (Crc.on 0#32 l) := ⟨_, rfl⟩
  have hC : Fr.ck4 l = Fr.le4 m.toNat := by rw [hm]; rfl
  have hM := masked_any v l w hB
  rw [← hm] at hM
  rw [hC]
  have h0 := U_lo m
  have h1 := U_hi m
  have hv := le4_vals m
  clear hC hm
  go_enter Try.func52, Try.ntmps52
  go_wp2_with (go_at_call 16; refine hM.mono ?_; rintro e w1 ⟨rfl, hb1⟩)
  go_ret
  refine ⟨_, rfl, ?_, Below.al hb1 _⟩
  have := lit_bts w1 (Fr.le4 m.toNat) w1.heap.size rfl (by show 4 ≤ 1000000; omega)
  rw [hv] at this
  exact this
/-- three rows, ahead of Join -/
theorem three_parts {w : World} {a b c : Value} {la lb lc : List UInt8} {n : Nat} (ha : Bts w a la) (hb : Bts w b lb) (hc : Bts w c lc) (hn : n = w.heap.size) :
    Sli (w.alloc (.cells #[a, b, c] 22)) (.slice (some ⟨n, 0, none⟩) 3 3) [a, b, c] ∧ Parts (w.alloc (.cells #[a, b, c] 22)) [a, b, c] [la, lb, lc] := by
  have hA : Below w.heap.size w (w.alloc (.cells #[a, b, c] 22)) := Below.al (Below.refl _ _) _
  refine ⟨?_, rfl, fun i hi => ?_⟩
  · subst hn
    exact Sli.lit w [a, b, c] 22 (0, 0) (by unfold maxLen; simp)
  · match i, hi with
    | 0, _ => exact ⟨a, rfl, ha.keep hA⟩
    | 1, _ => exact ⟨b, rfl, hb.keep hA⟩
    | 2, _ => exact ⟨c, rfl, hc.keep hA⟩
theorem sb_mk (b : List UInt8) : sb ⟨b.toArray⟩ = b := rfl
theorem size_mk (b : List UInt8) : (ByteArray.mk b.toArray).size = b.length := rfl
set_option maxRecDepth 100000 in
theorem putF_gt (v : Value) (b : List UInt8) (w : World) (hB : Bts w v b) (hl : 4096 < b.length) (hm : b.length ≤ 140737488351232) :
    Calls Try.prog 30 #[v] w fun e w' => e = .returned (.tuple #[.slice none 0 0, .int .i64 3]) ∧ Below w.heap.size w w' := by
  have hc := conv_str hB
  have hT := putText_gt ⟨b.toArray⟩ w (by rw [size_mk]; exact hl) (by rw [size_mk]; exact hm)
  go_enter Try.func30, Try.ntmps30
  go_wp2_with (go_at_call 19; refine hT.mono ?_; rintro e w1 ⟨rfl, hb1⟩)
  go_ret2
  exact ⟨rfl, hb1⟩
set_option maxRecDepth 100000 in
theorem refPutF_gt (v : Value) (b : List UInt8) (w : World) (hB : Bts w v b) (hl : 4096 < b.length) (hm : b.length ≤ 140737488351232) :
    Calls Try.prog 31 #[v] w fun e w' => e = .returned (.tuple #[.slice none 0 0, .int .i64 3]) ∧ Below w.heap.size w w' := by
  have hc := conv_str hB
  have hT := refPutText_gt ⟨b.toArray⟩ w (by rw [size_mk]; exact hl) (by rw [size_mk]; exact hm)
  go_enter Try.func31, Try.ntmps31
  go_wp2_with (go_at_call 20; refine hT.mono ?_; rintro e w1 ⟨rfl, hb1⟩)
  go_ret2
  exact ⟨rfl, hb1⟩
set_option maxRecDepth 100000 in
set_option maxHeartbeats 2000000 in
theorem putF_le (v : Value) (b : List UInt8) (w : World) (hB : Bts w v b) (hl : b.length ≤ 4096) :
    Calls Try.prog 30 #[v] w fun e w' => ∃ v, e = .returned (.tuple #[v, .int .i64 0]) ∧ Below w.heap.size w w' ∧ OwnB w.heap.size w' v (Fr.frame Fr.ck4 b) := by
  have hc := conv_str hB
  have hT := putText_le ⟨b.toArray⟩ w (by rw [size_mk]; exact hl)
  rw [sb_mk] at hT
  have hpl := Pk.put_len b.length
  have hpt : (Pk.putText b).length = (Pk.put b.length).length + b.length := by simp [Pk.putText]
  have hF : Fr.frame Fr.ck4 b = 90 :: (Pk.putText b ++ Fr.ck4 (Pk.putText b)) := rfl
  have h4 := fun v w hB => four_any v (Pk.putText b) w hB
  have hc4 := Fr.ck4_len (Pk.putText b)
  rw [hF]
  have ht5 : (Pk.putText b).length ≤ 5000 := by omega
  clear hF hpl hpt
  generalize Fr.ck4 (Pk.putText b) = c at h4 hc4 ⊢
  generalize Pk.putText b = t at h4 hT ht5 ⊢
  go_enter Try.func30, Try.ntmps30
  go_wp2_with (go_at_call 19; refine hT.mono ?_; rintro e w1 ⟨v1, rfl, hb1, ho1⟩; obtain ⟨ao1, cap1, rfl, hn1, hm1, hz1⟩ := ho1.bts.form)
  go_wp2_with (go_at_call 52; refine (h4 _ _ (ho1.bts.keep (Below.al (Below.refl _ _) _))).mono ?_; rintro e w2 ⟨v2, rfl, hB2, hb2⟩; obtain ⟨ao2, cap2, rfl, hn2, hm2, hz2⟩ := hB2.form)
  have b12 := Below.call (Below.al (Below.refl _ w1) (.cells #[.int .u8 90] 5)) hb2
  have hP := three_parts (n := w2.heap.size) (w := w2) (a := .slice (some ⟨w1.heap.size, 0, none⟩) 1 1) (c := .slice ao2 4 cap2) (la := [90]) ((lit_bts w1 [90] w1.heap.size rfl (by decide)).keep hb2) (ho1.bts.keep b12) (hc4 ▸ hB2) rfl
  refine (join_any _ _ [[90], t, c] _ hP.1 hP.2 (by simp; omega)).mono ?_
  rintro e w3 ⟨v3, rfl, ho3, hb3⟩
  clear hP hT hc
  go_wp2_with fail
  go_ret2
  have b02 := Below.al (Below.call hb1 b12) (.cells #[.slice (some ⟨w1.heap.size, 0, none⟩) 1 1, .slice ao1 t.length cap1, .slice ao2 4 cap2] 22)
  refine ⟨v3, rfl, Below.call b02 hb3, ?_⟩
  have e1 : [[90], t, c].flatten = 90 :: (t ++ c) := by simp
  rw [e1] at ho3
  exact ho3.mono b02.size
set_option maxRecDepth 100000 in
set_option maxHeartbeats 2000000 in
theorem le4_lie (w : World) (m : BitVec 32) : Lie (w.alloc (.cells #[.int .u8 (U m % 256), .int .u8 (U m / 256 % 256), .int .u8 (U m / 65536 % 256), .int .u8 (U m / 16777216)] 5)) (some ⟨w.heap.size, 0, none⟩) ((Fr.le4 m.toNat).map by8) := by
  have := lit_bts w (Fr.le4 m.toNat) w.heap.size rfl (by show 4 ≤ 1000000; omega)
  have hl := Sli.lie this
  rw [le4_vals] at hl ⊢
  exact hl
theorem own90 (w : World) : w.heap.size ≤ w.heap.size ∧ (w.alloc (.cells #[.int .u8 90] 5)).ownsRow w.heap.size 5 1 (.slice (some ⟨w.heap.size, 0, none⟩) 1 1) 1 [.int .u8 90] := ⟨Nat.le_refl _, own_lit1 w 90⟩
set_option maxRecDepth 100000 in
set_option maxHeartbeats 2000000 in
theorem refPutF_le (v : Value) (b : List UInt8) (w : World) (hB : Bts w v b) (hl : b.length ≤ 4096) :
    Calls Try.prog 31 #[v] w fun e w' => ∃ v, e = .returned (.tuple #[v, .int .i64 0]) ∧ Below w.heap.size w w' ∧ OwnB w.heap.size w' v (Fr.frame Fr.ck4 b) := by
  have hc := conv_str hB
  have hT := refPutText_le ⟨b.toArray⟩ w (by rw [size_mk]; exact hl)
  rw [sb_mk] at hT
  have hpl := Pk.put_len b.length
  have hpt : (Pk.putText b).length = (Pk.put b.length).length + b.length := by simp [Pk.putText]
  have ht5 : (Pk.putText b).length ≤ 5000 := by omega
  have hF : Fr.frame Fr.ck4 b = 90 :: (Pk.putText b ++ Fr.le4 (masked (Crc.on 0#32 (Pk.putText b))).toNat) := rfl
  have hM := fun w v hB => refMasked_any v (Pk.putText b) w hB (by omega)
  rw [hF]
  clear hF hpl hpt
  generalize masked (Crc.on 0#32 (Pk.putText b)) = m at hM ⊢
  generalize Pk.putText b = t at hM hT ht5 ⊢
  have h0 := U_lo m
  have h1 := U_hi m
  have hv := le4_vals m
  go_enter Try.func31, Try.ntmps31
  go_wp2_with (go_at_call 20; refine hT.mono ?_; rintro e w1 ⟨v1, rfl, hb1, ho1⟩; obtain ⟨ao1, cap1, rfl, hn1, hm1, hz1⟩ := ho1.bts.form)
  refine (hM _ _ ho1.bts).mono ?_
  rintro e w2 ⟨rfl, hb2⟩
  have hL2 : Bts w2 (.slice ao1 (t).length cap1) (t) := ho1.bts.keep hb2
  clear ho1 hT hc hM hB
  go_wp2_with (first
    | (at_builtin; refine wpList_app (w2.alloc (.cells #[.int .u8 90] 5)) rfl _ _ 22 rfl w2.heap.size 5 (.int .u8 0) 1 Try.underlying22 Try.info5 (by decide) rfl (own90 w2).2 rfl ao1 _ cap1 ((t).map by8) rfl hz1 (List.length_map ..) (Sli.lie (hL2.keep (Below.al (Below.refl _ _) _))) (by8_one _) (by omega) (by simp) ?_; intro v3 w3 ho3 hg3 hb3; clear hL2; obtain ⟨ao3, cap3, rfl, hn3, hm3⟩ := own_form ho3)
    | (at_builtin; refine wpList_app (w3.alloc (.cells #[.int .u8 (U m % 256), .int .u8 (U m / 256 % 256), .int .u8 (U m / 65536 % 256), .int .u8 (U m / 16777216)] 5)) rfl _ _ 22 rfl w2.heap.size 5 (.int .u8 0) 1 Try.underlying22 Try.info5 (by decide) rfl (ho3.alloc _) rfl (some ⟨w3.heap.size, 0, none⟩) 4 4 ((Fr.le4 m.toNat).map by8) rfl (fun h => by cases h) rfl (le4_lie w3 m) (by8_one _) (by omega) (by have := hb3.size; simp at this; simp; omega) ?_; intro v4 w4 ho4 hg4 hb4))
  go_ret2
  have b2 := Below.al (Below.refl w2.heap.size w2) (.cells #[.int .u8 90] 5)
  have b3 := Below.al (b2.trans hb3) (.cells #[.int .u8 (U m % 256), .int .u8 (U m / 256 % 256), .int .u8 (U m / 65536 % 256), .int .u8 (U m / 16777216)] 5)
  have b4 := b3.trans hb4
  refine ⟨v4, rfl, Below.call (Below.call hb1 hb2) b4, ?_⟩
  have e1 : [Value.int .u8 90] ++ t.map by8 ++ (Fr.le4 m.toNat).map by8 = (90 :: (t ++ Fr.le4 m.toNat)).map by8 := by simp [by8]
  have e2 : 1 + t.length + 4 = (90 :: (t ++ Fr.le4 m.toNat)).length := by simp [Fr.le4]; omega
  rw [e1, e2] at ho4
  exact OwnB.mono ho4 (Below.call hb1 hb2).size
end Go.Proofs.Ytlcnjinabfbglaa
