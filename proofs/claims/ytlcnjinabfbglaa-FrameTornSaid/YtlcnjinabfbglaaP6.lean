import Derived.Test.YtlcnjinabfbglaaP5
namespace Go.Proofs.Ytlcnjinabfbglaa
open Go.RowKit

/-- string(b) -/
theorem conv_str {w : World} {v : Value} {l : List UInt8} (h : Bts w v l) : (convert 22 9 v).run Try.prog w = .ok (.string ⟨l.toArray⟩) w := by
  obtain ⟨ao, cap, rfl, h1, h2, h3⟩ := h.form
  cases ao with
  | some a =>
    refine run_convert_bytes_back w 22 9 5 a cap l Try.underlying22 Try.underlying5 Try.underlying9 fun j hj => ?_
    obtain ⟨ad, ha, hc⟩ := (Sli.lie h) j (by8 l[j]) (by simp [hj])
    obtain rfl := Option.some.inj ha
    exact hc
  | none =>
    have hc0 := h3 rfl
    have hl : l = [] := List.eq_nil_of_length_eq_zero (by omega)
    subst hl
    subst hc0
    exact (run_convert_bytes_string w 22 9 5 none 0 0 Try.underlying22 Try.underlying5 Try.underlying9).trans rfl
theorem p_take1 : takeV (Pk.take [172, 2] 0) = .tuple #[.int .u64 300, .int .i64 2, .int .i64 0] := by
  have : Pk.take [172, 2] 0 = some (300, 2) := by decide +kernel
  rw [this]; rfl
theorem p_take2 : takeV (Pk.take [128, 0] 0) = .tuple #[.int .u64 0, .int .i64 0, .int .i64 4] := by
  have : Pk.take [128, 0] 0 = none := by decide +kernel
  rw [this]; rfl
theorem p_take3 : takeV (Pk.take [128] 0) = .tuple #[.int .u64 0, .int .i64 0, .int .i64 4] := by
  have : Pk.take [128] 0 = none := by decide +kernel
  rw [this]; rfl
theorem p_put0 : Pk.put 0 = [0] := by decide +kernel
theorem p_put300 : Pk.put 300 = [172, 2] := by decide +kernel
theorem p_zm1 : Pk.put (Pk.zig (-1)) = [1] := by decide +kernel
theorem p_z1 : Pk.put (Pk.zig 1) = [2] := by decide +kernel
def ab : ByteArray := ⟨#[97, 98]⟩
theorem p_ab : Pk.putText (sb ab) = [2, 97, 98] := by decide +kernel

/-- a literal's row -/
theorem lit_bts (w : World) (l : List UInt8) (n : Nat) (hn : n = w.heap.size) (hl : l.length ≤ 1000000) : Bts (w.alloc (.cells (l.map by8).toArray 5)) (.slice (some ⟨n, 0, none⟩) l.length l.length) l := by
  subst hn
  have := Sli.lit w (l.map by8) 5 (0, 0) (by rw [List.length_map]; unfold maxLen; omega)
  rw [List.length_map] at this
  exact this

set_option maxRecDepth 100000 in
theorem known01_any (w : World) : Calls Try.prog 18 #[] w fun e w' => e = .returned (.bool true) ∧ Below w.heap.size w w' := by
  go_enter Try.func18, Try.ntmps18
  go_wp2_with fail
  refine (take_any _ [172, 2] 0 _ (lit_bts _ [172, 2] _ rfl (by decide)) (by decide) (by decide)).mono ?_
  rw [p_take1]
  rintro e w1 ⟨rfl, rfl⟩
  go_wp2_with fail
  refine (take_any _ [128, 0] 0 _ (lit_bts _ [128, 0] _ (by simp) (by decide)) (by decide) (by decide)).mono ?_
  rw [p_take2]
  rintro e w1 ⟨rfl, rfl⟩
  go_wp2_with fail
  refine (take_any _ [128] 0 _ (lit_bts _ [128] _ (by simp) (by decide)) (by decide) (by decide)).mono ?_
  rw [p_take3]
  rintro e w1 ⟨rfl, rfl⟩
  go_wp2_with fail
  refine (putText_any ab _ (by decide)).mono ?_
  rintro e w1 ⟨v1, hb1, ⟨-, rfl, hown1⟩ | ⟨h, -⟩⟩
  · rw [p_ab] at hown1
    have hb01 : Below w.heap.size w w1 := ((((Below.refl _ _).alloc (Nat.le_refl _) _).alloc (by simp) _).alloc (by simp; omega) _).trans (hb1.mono (by simp; omega))
    have hB1 := hown1.bts
    clear hb1 hown1
    go_wp2_with fail
    rw [show (.int .u64 0 : Value) = u64 0 from rfl]
    refine (put_any 0 _ (by decide)).mono ?_
    rw [p_put0]
    rintro e w2 ⟨v2, rfl, hown2, hb2⟩
    have hc2 := conv_str hown2.bts
    have hB1 := hB1.keep hb2
    have hb02 := Below.call hb01 hb2
    clear hb2 hown2 hb01
    go_wp2_with fail
    rw [show (.int .u64 300 : Value) = u64 300 from rfl]
    refine (put_any 300 _ (by decide)).mono ?_
    rw [p_put300]
    rintro e w3 ⟨v3, rfl, hown3, hb3⟩
    have hc3 := conv_str hown3.bts
    have hB1 := Sli.keep hB1 hb3
    have hb03 := Below.call hb02 hb3
    clear hb3 hown3 hb02 hc2
    go_wp2_with fail
    refine (putInt_any (-1) _ (by decide) (by decide)).mono ?_
    rw [p_zm1]
    rintro e w4 ⟨v4, rfl, hown4, hb4⟩
    have hc4 := conv_str hown4.bts
    have hB1 := Sli.keep hB1 hb4
    have hb04 := Below.call hb03 hb4
    clear hb4 hown4 hb03 hc3
    go_wp2_with fail
    refine (putInt_any 1 _ (by decide) (by decide)).mono ?_
    rw [p_z1]
    rintro e w5 ⟨v5, rfl, hown5, hb5⟩
    have hc5 := conv_str hown5.bts
    have hB1 := Sli.keep hB1 hb5
    have hb05 := Below.call hb04 hb5
    have hc1 := conv_str (l := [2, 97, 98]) hB1
    clear hb5 hown5 hb04 hc4
    go_wp2_with fail
    go_ret
    exact ⟨rfl, hb05⟩
  · exact absurd h (by decide)
end Go.Proofs.Ytlcnjinabfbglaa
