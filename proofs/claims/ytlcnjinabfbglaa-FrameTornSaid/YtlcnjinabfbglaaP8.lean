import Derived.Test.YtlcnjinabfbglaaP6
import Derived.Test.YtlcnjinabfbglaaPk2
import Derived.Lib.Zigzag
namespace Go.Proofs.Ytlcnjinabfbglaa
open Go.RowKit

theorem Pk.tk_lt : ∀ (l : List UInt8) (i n v j : Nat), i ≤ 9 → n < 2 ^ (7 * i) → Pk.tkF l i n = some (v, j) → v < 18446744073709551616 := by
  intro l
  induction l with
  | nil => intro i n v j _ _ h; simp [Pk.tkF] at h
  | cons x r ih =>
    intro i n v j hi hn h
    rw [Pk.tkF] at h
    split at h
    · cases h
    · rename_i h1
      have hcase : i ≤ 8 ∨ (i = 9 ∧ x.toNat ≤ 1) := by omega
      have hov := (or_val n i x hn hcase).2
      split at h
      · simp only [Option.some.injEq, Prod.mk.injEq] at h
        omega
      · rename_i h2
        exact ih (i + 1) _ v j (by omega) (grow_lt n i (x.toNat % 128) hn (by omega)) h
theorem Pk.take_lt (l : List UInt8) (at_ v j : Nat) (h : Pk.take l at_ = some (v, j)) : v < 18446744073709551616 := by
  unfold Pk.take at h
  obtain ⟨⟨v', j'⟩, h1, h2⟩ := Option.map_eq_some_iff.1 h
  simp only [Prod.mk.injEq] at h2
  have := Pk.tk_lt _ 0 0 _ _ (by omega) (by simp) h1
  omega

theorem i64_xor_zero (x : Nat) (hx : x < 9223372036854775808) : bits .xor .i64 (x : Int) 0 = (x : Int) := by
  show IntKind.i64.wrap ((BitVec.ofInt 64 (x : Int) ^^^ BitVec.ofInt 64 0).toNat : Int) = _
  have h1 : (BitVec.ofInt 64 0).toNat = 0 := by decide
  have h2 : (BitVec.ofInt 64 (x : Int)).toNat = x := by
    rw [BitVec.ofInt_natCast, BitVec.toNat_ofNat]; exact Nat.mod_eq_of_lt (by omega)
  rw [BitVec.toNat_xor, h1, h2, Nat.xor_zero, IntKind.wrap_i64]
  omega
theorem i64_xor_ones (x : Nat) (hx : x < 9223372036854775808) : bits .xor .i64 (x : Int) (-1) = -(x : Int) - 1 := by
  show IntKind.i64.wrap ((BitVec.ofInt 64 (x : Int) ^^^ BitVec.ofInt 64 (-1)).toNat : Int) = _
  have h1 : (BitVec.ofInt 64 (-1)).toNat = 2 ^ 64 - 1 := by decide
  have h2 : (BitVec.ofInt 64 (x : Int)).toNat = x := by
    rw [BitVec.ofInt_natCast, BitVec.toNat_ofNat]; exact Nat.mod_eq_of_lt (by omega)
  rw [BitVec.toNat_xor, h1, h2, Nat.xor_comm, Lib.xor_ones64 x (by omega), IntKind.wrap_i64]
  omega
/-- what TakeInt hands back -/
def takeIV : Option (Nat × Nat) → Value
  | none => .tuple #[.int .i64 0, .int .i64 0, .int .i64 4]
  | some (n, j) => .tuple #[.int .i64 (Pk.unzig n), .int .i64 (j : Int), .int .i64 0]
set_option maxRecDepth 100000 in
theorem takeInt_any (v : Value) (l : List UInt8) (at_ : Nat) (w : World) (hB : Bts w v l) (hat : at_ ≤ l.length) (hl : l.length ≤ 140737488351232) :
    Calls Try.prog 27 #[v, .int .i64 (at_ : Int)] w fun e w' => e = .returned (takeIV (Pk.take l at_)) ∧ w = w' := by
  have hT := take_any v l at_ w hB hat hl
  cases ht : Pk.take l at_ with
  | none =>
    rw [ht] at hT
    have hx0 : bits .xor .i64 0 0 = 0 := i64_xor_zero 0 (by omega)
    have ha0 : bits .and .u64 0 1 = 0 := Lib.u64_and1 0 (by omega) (by omega)
    go_enter Try.func27, Try.ntmps27
    go_wp2_with (go_at_call 26; refine hT.mono ?_; rintro e w1 ⟨rfl, rfl⟩; unfold takeV)
    go_ret3
    exact ⟨rfl, rfl⟩
  | some p =>
    obtain ⟨n, j⟩ := p
    have hn := Pk.take_lt l at_ n j ht
    rw [ht] at hT
    have hand : bits .and .u64 (n : Int) 1 = (n : Int) % 2 := Lib.u64_and1 n (by omega) (by omega)
    have hU : takeIV (some (n, j)) = .tuple #[.int .i64 (Pk.unzig n), .int .i64 (j : Int), .int .i64 0] := rfl
    have hj := Pk.take_le l at_ n j ht hat
    rcases Nat.mod_two_eq_zero_or_one n with hp | hp
    · obtain ⟨k, rfl⟩ : ∃ k, n = 2 * k := ⟨n / 2, by omega⟩
      have hu : Pk.unzig (2 * k) = (k : Int) := by unfold Pk.unzig; rw [if_pos (by omega)]; omega
      rw [hU, hu]
      have h1 : ((2 * k : Nat) : Int) / 2 = (k : Int) := by omega
      have h2 : bits .and .u64 ((2 * k : Nat) : Int) 1 = 0 := by rw [hand]; omega
      have h3 := i64_xor_zero k (by omega)
      obtain ⟨N, hN⟩ : ∃ N : Int, N = ((2 * k : Nat) : Int) := ⟨_, rfl⟩
      have hT' : takeV (some (2 * k, j)) = .tuple #[.int .u64 N, .int .i64 (j : Int), .int .i64 0] := by rw [hN]; rfl
      rw [hT'] at hT
      rw [← hN] at h1 h2
      clear hN hT' hu hU hand ht hp
      go_enter Try.func27, Try.ntmps27
      go_wp2_with (go_at_call 26; refine hT.mono ?_; rintro e w1 ⟨rfl, rfl⟩)
      go_ret3
      exact ⟨rfl, rfl⟩
    · obtain ⟨k, rfl⟩ : ∃ k, n = 2 * k + 1 := ⟨n / 2, by omega⟩
      have hu : Pk.unzig (2 * k + 1) = -(k : Int) - 1 := by unfold Pk.unzig; rw [if_neg (by omega)]; omega
      rw [hU, hu]
      have h1 : ((2 * k + 1 : Nat) : Int) / 2 = (k : Int) := by omega
      have h2 : bits .and .u64 ((2 * k + 1 : Nat) : Int) 1 = 1 := by rw [hand]; omega
      have h3 := i64_xor_ones k (by omega)
      obtain ⟨N, hN⟩ : ∃ N : Int, N = ((2 * k + 1 : Nat) : Int) := ⟨_, rfl⟩
      have hT' : takeV (some (2 * k + 1, j)) = .tuple #[.int .u64 N, .int .i64 (j : Int), .int .i64 0] := by rw [hN]; rfl
      rw [hT'] at hT
      rw [← hN] at h1 h2
      clear hN hT' hu hU hand ht hp
      go_enter Try.func27, Try.ntmps27
      go_wp2_with (go_at_call 26; refine hT.mono ?_; rintro e w1 ⟨rfl, rfl⟩)
      go_ret3
      exact ⟨rfl, rfl⟩

theorem cut_hu {P : Program} {T E : TypeId} (ht : P.underlying T = some (.slice E)) (hz : (P.info? E).map (·.size) = some 1) (ao : Option Addr) (n cap h : Nat) (hh : h ≤ cap) :
    ∃ V, (∀ w, (Instr.slice T (.slice ao n cap) none (some (.int .u64 (h : Int))) none).run P w = .ok V w) ∧ ∀ w us, Sli w (.slice ao n cap) us → h ≤ us.length → Sli w V (us.take h) := by
  obtain ⟨i, hi, hs⟩ := Option.map_eq_some_iff.1 hz
  refine ⟨_, fun w => ?_, fun w us H hu => by have := H.cut (l := 0) (Nat.zero_le h) hu; simpa using this⟩
  simp [Instr.slice, run_underlying ht, Instr.sliceBounds, Instr.sliceBound, asIntOf, sizeOf, typeInfo, hi, hh]
/-- what TakeText hands back -/
def takeTV : Option (List UInt8 × Nat) → Value
  | none => .tuple #[.string ⟨#[]⟩, .int .i64 0, .int .i64 4]
  | some (s, j) => .tuple #[.string ⟨s.toArray⟩, .int .i64 (j : Int), .int .i64 0]
theorem none_any (e : Int) (w : World) : Calls Try.prog 51 #[.int .i64 e] w fun r w' => r = .returned (.tuple #[.string ⟨#[]⟩, .int .i64 0, .int .i64 e]) ∧ w = w' := by
  go_enter Try.func51, Try.ntmps51
  go_wp2_with fail
  go_ret3
  exact ⟨rfl, rfl⟩
set_option maxRecDepth 100000 in
theorem takeText_any (v : Value) (l : List UInt8) (at_ : Nat) (w : World) (hB : Bts w v l) (hat : at_ ≤ l.length) (hl : l.length ≤ 140737488351232) :
    Calls Try.prog 28 #[v, .int .i64 (at_ : Int)] w fun e w' => e = .returned (takeTV (Pk.takeText l at_)) ∧ w = w' := by
  have hT := take_any v l at_ w hB hat hl
  unfold Pk.takeText
  cases ht : Pk.take l at_ with
  | none =>
    rw [ht] at hT
    go_enter Try.func28, Try.ntmps28
    go_wp2_with (go_at_call 26; refine hT.mono ?_; rintro e w1 ⟨rfl, rfl⟩; unfold takeV)
    refine (none_any 4 _).mono ?_
    rintro e w1 ⟨rfl, rfl⟩
    go_wp2_with fail
    go_ret3
    exact ⟨rfl, rfl⟩
  | some p =>
    obtain ⟨n, j⟩ := p
    have hn := Pk.take_lt l at_ n j ht
    rw [ht] at hT
    have hj := Pk.take_le l at_ n j ht hat
    have hT' : takeV (some (n, j)) = .tuple #[.int .u64 (n : Int), .int .i64 (j : Int), .int .i64 0] := rfl
    rw [hT'] at hT
    simp only []
    obtain ⟨ao, cap, rfl, c1, c2, c3⟩ := hB.form
    unfold maxLen at c2
    clear hT' ht
    by_cases h1 : 4096 < n
    · have h1' : (4096 : Int) < (n : Int) := by omega
      rw [if_pos (.inl h1)]
      go_enter Try.func28, Try.ntmps28
      go_wp2_with (go_at_call 26; refine hT.mono ?_; rintro e w1 ⟨rfl, rfl⟩)
      refine (none_any 4 _).mono ?_
      rintro e w1 ⟨rfl, rfl⟩
      go_wp2_with fail
      go_ret3
      exact ⟨rfl, rfl⟩
    · have h1' : ¬ (4096 : Int) < (n : Int) := by omega
      have h3 : (l.length : Int) - (j : Int) < 18446744073709551616 := by omega
      have h4 : (0 : Int) ≤ (l.length : Int) - (j : Int) := by omega
      by_cases h2 : l.length - j < n
      · have h2' : (l.length : Int) - (j : Int) < (n : Int) := by omega
        rw [if_pos (.inr h2)]
        go_enter Try.func28, Try.ntmps28
        go_wp2_with (go_at_call 26; refine hT.mono ?_; rintro e w1 ⟨rfl, rfl⟩)
        refine (none_any 4 _).mono ?_
        rintro e w1 ⟨rfl, rfl⟩
        go_wp2_with fail
        go_ret3
        exact ⟨rfl, rfl⟩
      · have h2' : ¬ (l.length : Int) - (j : Int) < (n : Int) := by omega
        rw [if_neg (by omega)]
        obtain ⟨V, hV, hBV⟩ := cut_l (P := Try.prog) Try.underlying22 Try.size5 ao l.length cap j hj.2
        have hD : Bts w V (l.drop j) := Bts.drop (hBV w _ hB (by simp))
        obtain ⟨ao2, cap2, rfl, k1, k2, k3⟩ := hD.form
        have hdl : (l.drop j).length = l.length - j := by simp
        obtain ⟨V2, hV2, hBV2⟩ := cut_hu (P := Try.prog) Try.underlying22 Try.size5 ao2 (l.drop j).length cap2 n (by omega)
        have hE : Bts w V2 ((l.drop j).take n) := Bts.take (hBV2 w _ hD (by simp; omega))
        have hc := conv_str hE
        unfold maxLen at k2
        obtain ⟨d, hd⟩ : ∃ d, d = (l.drop j).length := ⟨_, rfl⟩
        have hjn : (j : Int) + (n : Int) ≤ 140737488351232 := by omega
        have hR : takeTV (some (List.take n (List.drop j l), j + n)) = .tuple #[.string ⟨(List.take n (List.drop j l)).toArray⟩, .int .i64 ((j : Int) + (n : Int)), .int .i64 0] := by
          unfold takeTV; simp
        rw [hR]
        rw [← hd] at hV hV2
        clear hBV hBV2 hD hE hd hdl hR k1 k3 c3
        go_enter Try.func28, Try.ntmps28
        go_wp2_with (go_at_call 26; refine hT.mono ?_; rintro e w1 ⟨rfl, rfl⟩)
        go_ret3
        exact ⟨rfl, rfl⟩
end Go.Proofs.Ytlcnjinabfbglaa
