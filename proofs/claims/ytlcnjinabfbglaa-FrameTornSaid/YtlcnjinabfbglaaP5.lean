import Derived.Test.YtlcnjinabfbglaaP4
namespace Go.Proofs.Ytlcnjinabfbglaa
open Go.RowKit

theorem Try.size5 : (Try.prog.info? 5).map (·.size) = some 1 := by kernel_rfl
/-- what Take hands back -/
def takeV : Option (Nat × Nat) → Value
  | none => .tuple #[.int .u64 0, .int .i64 0, .int .i64 4]
  | some (n, j) => .tuple #[u64 n, .int .i64 (j : Int), .int .i64 0]

theorem and127 (x : UInt8) : bits .and .u8 (x.toNat : Int) 127 = ((x.toNat % 128 : Nat) : Int) := by
  have := u8_and_nat x.toNat 127 x.toNat_lt (by omega)
  rw [show (127 : Int) = ((127 : Nat) : Int) from rfl, this]
  congr 1
  exact Nat.and_two_pow_sub_one_eq_mod x.toNat 7
theorem or_val (n k : Nat) (x : UInt8) (hn : n < 2 ^ (7 * k)) (hk : k ≤ 8 ∨ (k = 9 ∧ x.toNat ≤ 1)) :
    bits .or .u64 (n : Int) (IntKind.u64.wrap (IntKind.u64.wrap (bits .and .u8 (x.toNat : Int) 127) * 2 ^ (7 * k))) = ((n + x.toNat % 128 * 2 ^ (7 * k) : Nat) : Int) ∧ n + x.toNat % 128 * 2 ^ (7 * k) < 18446744073709551616 := by
  have hx : x.toNat % 128 < 128 := by omega
  obtain ⟨p, hp⟩ : ∃ p, p = 2 ^ (7 * k) := ⟨_, rfl⟩
  have hb : x.toNat % 128 * p + p ≤ 18446744073709551616 := by
    rcases hk with h | ⟨h, h1⟩
    · have : p ≤ 2 ^ 56 := by rw [hp]; exact Nat.pow_le_pow_right (by omega) (by omega)
      have h3 : (x.toNat % 128 + 1) * p ≤ 128 * 2 ^ 56 := Nat.mul_le_mul (by omega) this
      rw [Nat.add_mul, Nat.one_mul] at h3
      have : (128 : Nat) * 2 ^ 56 = 9223372036854775808 := by decide
      omega
    · subst h
      have h2 : p = 9223372036854775808 := by rw [hp]
      have h3 : (x.toNat % 128 + 1) * p ≤ 2 * p := Nat.mul_le_mul (by omega) (Nat.le_refl _)
      rw [Nat.add_mul, Nat.one_mul] at h3
      omega
  rw [← hp] at hn ⊢
  have e1 : IntKind.u64.wrap (bits .and .u8 (x.toNat : Int) 127) = ((x.toNat % 128 : Nat) : Int) := by
    rw [and127, IntKind.wrap_u64]; omega
  have e2 : IntKind.u64.wrap (((x.toNat % 128 : Nat) : Int) * 2 ^ (7 * k)) = ((x.toNat % 128 * p : Nat) : Int) := by
    have : ((x.toNat % 128 : Nat) : Int) * 2 ^ (7 * k) = ((x.toNat % 128 * p : Nat) : Int) := by
      rw [hp]; push_cast; rfl
    rw [this, IntKind.wrap_u64]
    omega
  rw [e1, e2]
  obtain ⟨y, hy⟩ : ∃ y, y = x.toNat % 128 * p := ⟨_, rfl⟩
  have hdiv : y % 2 ^ (7 * k) = 0 := by rw [hy, hp]; exact Nat.mul_mod_left _ _
  rw [← hy] at hb ⊢
  refine ⟨?_, by omega⟩
  rw [u64_or_nat n y (by omega) (by omega), Nat.or_comm, nat_join (7 * k) y n hdiv (by rw [← hp]; exact hn), Nat.add_comm]
theorem grow_lt (n k m : Nat) (hn : n < 2 ^ (7 * k)) (hm : m < 128) : n + m * 2 ^ (7 * k) < 2 ^ (7 * (k + 1)) := by
  rw [show 7 * (k + 1) = 7 * k + 7 from by omega, Nat.pow_add]
  have h3 : (m + 1) * 2 ^ (7 * k) ≤ 128 * 2 ^ (7 * k) := Nat.mul_le_mul (by omega) (Nat.le_refl _)
  rw [Nat.add_mul, Nat.one_mul] at h3
  have : 2 ^ (7 * k) * 2 ^ 7 = 128 * 2 ^ (7 * k) := by rw [Nat.mul_comm]
  omega

theorem take_arg (v : Value) (l : List UInt8) (at_ : Int) (w : World) (hB : Bts w v l) (h : at_ < 0 ∨ (l.length : Int) < at_) :
    Calls Try.prog 26 #[v, .int .i64 at_] w fun e w' => e = .returned (.tuple #[.int .u64 0, .int .i64 0, .int .i64 2]) ∧ w = w' := by
  obtain ⟨ao, cap, rfl, h1, h2, h3⟩ := hB.form
  unfold maxLen at h2
  by_cases h0 : at_ < 0
  · go_enter Try.func26, Try.ntmps26
    go_wp2_with fail
    go_ret3
    exact ⟨rfl, rfl⟩
  · have h4 : (l.length : Int) < at_ := by omega
    go_enter Try.func26, Try.ntmps26
    go_wp2_with fail
    go_ret3
    exact ⟨rfl, rfl⟩

set_option maxRecDepth 100000 in
theorem take_any (v : Value) (l : List UInt8) (at_ : Nat) (w : World) (hB : Bts w v l) (hat : at_ ≤ l.length) (_hl : l.length ≤ 140737488351232) :
    Calls Try.prog 26 #[v, .int .i64 (at_ : Int)] w fun e w' => e = .returned (takeV (Pk.take l at_)) ∧ w = w' := by
  obtain ⟨ao, cap, rfl, h1, h2, h3⟩ := hB.form
  unfold maxLen at h2
  obtain ⟨V, hV, hBV⟩ := cut_l (P := Try.prog) Try.underlying22 Try.size5 ao l.length cap at_ hat
  have hD : Bts w V (l.drop at_) := Bts.drop (hBV w _ hB (by simp))
  obtain ⟨ao2, cap2, rfl, k1, k2, k3⟩ := hD.form
  unfold maxLen at k2
  obtain ⟨d, hd⟩ : ∃ d, d = l.drop at_ := ⟨_, rfl⟩
  have hdl : d.length = l.length - at_ := by rw [hd]; simp
  have hT : takeV (Pk.take l at_) = takeV ((Pk.tkF d 0 0).map fun p => (p.1, at_ + p.2)) := by rw [hd]; rfl
  rw [hT]
  rw [← hd] at hD k1 hV
  have hdl2 : d.length + at_ ≤ l.length := by omega
  have h4 : ¬ (at_ : Int) < 0 := by omega
  have h5 : ¬ (l.length : Int) < (at_ : Int) := by omega
  obtain ⟨F, hF⟩ : ∃ F : Option (Nat × Nat) → Value, F = fun t => takeV (t.map fun p => (p.1, at_ + p.2)) := ⟨_, rfl⟩
  have HF := Lib.hid hF
  rw [show takeV ((Pk.tkF d 0 0).map fun p => (p.1, at_ + p.2)) = F (Pk.tkF d 0 0) from by rw [hF]]
  clear hF hT hBV hd hdl
  go_enter Try.func26, Try.ntmps26
  go_wp2_with fail
  go_loop [4, 21] (fun c i => ∃ k n : Nat, k ≤ 9 ∧ k ≤ d.length ∧ i = .int .i64 k ∧ c = u64 n ∧ n < 2 ^ (7 * k) ∧ Pk.tkF d 0 0 = Pk.tkF (d.drop k) k n) (fun _ i => d.length - (intOf i).toNat)
  case atStart => exact ⟨0, 0, by omega, Nat.zero_le _, rfl, rfl, by simp, rfl⟩
  case round =>
    obtain ⟨k, n, hk9, hk, rfl, rfl, hn, htk⟩ := hrel
    have hn63 : n < 9223372036854775808 := Nat.lt_of_lt_of_le hn (by
      have : (2 : Nat) ^ (7 * k) ≤ 2 ^ 63 := Nat.pow_le_pow_right (by omega) (by omega)
      exact this)
    have HN := Lib.hid hn
    clear hn
    by_cases hlt : k < d.length
    · obtain ⟨b, off, rfl, hbl, hc⟩ := Bts.at hD (by omega)
      have hck := hc k hlt
      have hdd : d.drop k = d.getD k 0 :: d.drop (k + 1) := by
        rw [List.drop_eq_getElem_cons hlt]; simp [hlt]
      obtain ⟨x, hx⟩ : ∃ x, x = d.getD k 0 := ⟨_, rfl⟩
      rw [← hx] at hck hdd
      rw [hdd] at htk
      have HTK := Lib.hid htk
      have hx256 := x.toNat_lt
      clear hx hdd hc htk
      by_cases hA : k = 9 ∧ 1 < x.toNat
      · have HR : RowKit.Hid (F (Pk.tkF d 0 0) = takeV none) := by
          show _ = _
          rw [HTK.out, HF.out, Pk.tkF, if_pos (.inl hA)]; rfl
        obtain ⟨rfl, hx1⟩ := hA
        have hx1' : (1 : Int) < (x.toNat : Int) := by omega
        go_wp2_with fail
        go_ret3
        exact ⟨ret_val HR.out.symm, rfl⟩
      · by_cases hB2 : 0 < k ∧ x.toNat = 0
        · have HR : RowKit.Hid (F (Pk.tkF d 0 0) = takeV none) := by
            show _ = _
            rw [HTK.out, HF.out, Pk.tkF, if_pos (.inr hB2)]; rfl
          have hk0 : (0 : Int) < (k : Int) := by omega
          have hx0 : ((x.toNat : Int) == 0) = true := by simp; omega
          have hx1 : ¬ (1 : Int) < (x.toNat : Int) := by omega
          go_wp2_with fail
          all_goals go_ret3
          all_goals exact ⟨ret_val HR.out.symm, rfl⟩
        · have hno : ¬ ((k = 9 ∧ 1 < x.toNat) ∨ (0 < k ∧ x.toNat = 0)) := by omega
          have hcase : k = 0 ∨ (0 < k ∧ k < 9 ∧ 0 < x.toNat) ∨ (k = 9 ∧ x.toNat ≤ 1 ∧ 0 < x.toNat) := by omega
          obtain ⟨hv, hv64⟩ := or_val n k x HN.out (by omega)
          have hgl := grow_lt n k (x.toNat % 128) HN.out (by omega)
          obtain ⟨M, hM⟩ : ∃ M, M = n + x.toNat % 128 * 2 ^ (7 * k) := ⟨_, rfl⟩
          rw [← hM] at hv hv64 hgl
          have hstep : Pk.tkF (x :: d.drop (k + 1)) k n = if x.toNat < 128 then some (M, k + 1) else Pk.tkF (d.drop (k + 1)) (k + 1) M := by
            rw [Pk.tkF, if_neg hno, ← hM]
          rw [hstep] at HTK
          clear hM hstep
          have HGL := Lib.hid hgl
          clear hgl
          by_cases h128 : x.toNat < 128
          · have hx128 : (x.toNat : Int) < 128 := by omega
            have HR : RowKit.Hid (F (Pk.tkF d 0 0) = .tuple #[u64 M, .int .i64 ((at_ : Int) + (k : Int) + 1), .int .i64 0]) := by
              show _ = _
              rw [HTK.out, if_pos h128, HF.out]
              simp only [Option.map_some, takeV]
              rw [show ((at_ + (k + 1) : Nat) : Int) = (at_ : Int) + (k : Int) + 1 from by omega]
            rcases hcase with ha | ⟨ha, hb, hc0⟩ | ⟨ha, hb, hc0⟩
            · have f1 : ((k : Int) == 9) = false := by simp; omega
              have f3 : ¬ (0 : Int) < (k : Int) := by omega
              clear ha
              go_wp2_with fail
              go_ret3
              exact ⟨ret_val HR.out.symm, rfl⟩
            · have f1 : ((k : Int) == 9) = false := by simp; omega
              have f2 : ((x.toNat : Int) == 0) = false := by simp; omega
              have f3 : (0 : Int) < (k : Int) := by omega
              go_wp2_with fail
              go_ret3
              exact ⟨ret_val HR.out.symm, rfl⟩
            · have f1 : ((k : Int) == 9) = true := by simp; omega
              have f2 : ((x.toNat : Int) == 0) = false := by simp; omega
              have f3 : ¬ (1 : Int) < (x.toNat : Int) := by omega
              have f4 : (0 : Int) < (k : Int) := by omega
              clear ha
              go_wp2_with fail
              go_ret3
              exact ⟨ret_val HR.out.symm, rfl⟩
          · have hx128 : ¬ (x.toNat : Int) < 128 := by omega
            have HT2 : RowKit.Hid (Pk.tkF d 0 0 = Pk.tkF (d.drop (k + 1)) (k + 1) M) := by
              show _ = _
              rw [HTK.out, if_neg h128]
            have f1 : ((k : Int) == 9) = false := by simp; omega
            have f2 : ((x.toNat : Int) == 0) = false := by simp; omega
            by_cases ha : 0 < k
            · have f3 : (0 : Int) < (k : Int) := by omega
              go_wp2_with fail
              exact ⟨⟨k + 1, M, by omega, by omega, by go_num, rfl, HGL.out, HT2.out⟩, by simp [intOf]; omega⟩
            · have f3 : ¬ (0 : Int) < (k : Int) := by omega
              go_wp2_with fail
              exact ⟨⟨k + 1, M, by omega, by omega, by go_num, rfl, HGL.out, HT2.out⟩, by simp [intOf]; omega⟩
    · have hkd : k = d.length := by omega
      have HR : RowKit.Hid (F (Pk.tkF d 0 0) = takeV none) := by
        show _ = _
        rw [htk, hkd, List.drop_length, HF.out]; rfl
      clear htk hkd
      go_wp2_with fail
      go_ret3
      exact ⟨ret_val HR.out.symm, rfl⟩
end Go.Proofs.Ytlcnjinabfbglaa
