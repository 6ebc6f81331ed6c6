import Derived.Test.YtlcnjinabfbglaaKit
import Derived.Test.YtlcnjinabfbglaaPk
import Derived.Test.YtlcnjinabfbglaaRows
namespace Go.Proofs.Ytlcnjinabfbglaa
open Go.RowKit

theorem Try.info5 : (Try.prog.info? 5).map (fun i => (i.zero, i.size, i.bytes)) = some (some (.int .u8 0), 1, 1) := by kernel_rfl
/-- a number of 64 bits -/
abbrev u64 (n : Nat) : Value := .int .u64 (n : Int)
/-- the call's own row of bytes -/
def OwnB (N : Nat) (w : World) (v : Value) (l : List UInt8) : Prop := w.ownsRow N 5 1 v l.length (l.map by8)
theorem OwnB.bts {N : Nat} {w : World} {v : Value} {l : List UInt8} (h : OwnB N w v l) : Bts w v l := Sli.own h
theorem OwnB.keep {N : Nat} {w w' : World} {v : Value} {l : List UInt8} (h : OwnB N w v l) (hb : Below w.heap.size w w') : OwnB N w' v l := by
  obtain ⟨h1, h2⟩ := h
  refine ⟨h1, ?_⟩
  rcases h2 with h2 | ⟨g, cap, cur, hv, hg, hh, r⟩
  · exact .inl h2
  · exact .inr ⟨g, cap, cur, hv, hg, by rw [hb.block g (Array.getElem?_eq_some_iff.1 hh).1]; exact hh, r⟩
theorem OwnB.mono {N M : Nat} {w : World} {v : Value} {l : List UInt8} (h : OwnB N w v l) (hM : M ≤ N) : OwnB M w v l := by
  obtain ⟨h1, h2⟩ := h
  refine ⟨h1, ?_⟩
  rcases h2 with h2 | ⟨g, cap, cur, hv, hg, hh, r⟩
  · exact .inl h2
  · exact .inr ⟨g, cap, cur, hv, by omega, hh, r⟩

set_option maxRecDepth 10000 in
theorem lowByte (n : Nat) : bits .or .u8 ((n : Int) % 256) 128 = ((UInt8.ofNat (n % 128 + 128)).toNat : Int) := by
  have h := u8_or_nat (n % 256) 128 (by omega) (by omega)
  have e1 : ((n % 256 : Nat) : Int) = (n : Int) % 256 := by push_cast; rfl
  rw [e1] at h
  rw [show (128 : Int) = ((128 : Nat) : Int) from rfl, h]
  congr 1
  rw [UInt8.toNat_ofNat']
  have e2 : n % 256 ||| 128 = n % 128 + 128 := by
    have : ∀ k, k < 256 → k ||| 128 = k % 128 + 128 := by decide +kernel
    rw [this _ (by omega)]; omega
  rw [e2]; omega
theorem smallByte (n : Nat) (h : n < 128) : ((UInt8.ofNat n).toNat : Int) = (n : Int) := by
  rw [UInt8.toNat_ofNat']; omega

set_option maxRecDepth 100000 in
theorem put_any (n : Nat) (w : World) (hn : n < 18446744073709551616) :
    Calls Try.prog 21 #[u64 n] w fun e w' => ∃ v, e = .returned v ∧ OwnB w.heap.size w' v (Pk.put n) ∧ Below w.heap.size w w' := by
  obtain ⟨N, hN⟩ : ∃ N, N = w.heap.size := ⟨_, rfl⟩
  have HN := Lib.hid hN
  rw [← hN]
  clear hN
  go_enter Try.func21, Try.ntmps21
  go_wp2_with fail
  go_loopw [0, 3] (fun c b wr => ∃ k m : Nat, ∃ l : List UInt8, k ≤ 9 ∧ m < 2 ^ (64 - 7 * k) ∧ c = u64 m ∧ l ++ Pk.putF (10 - k) m = Pk.put n ∧ OwnB N wr b l ∧ l.length = k ∧ Below N w wr) (fun c _ _ => (intOf c).toNat)
  case atStart => exact ⟨0, n, [], by omega, by simpa using hn, rfl, rfl, World.ownsRow_nil _ _ _ _, rfl, Below.refl _ _⟩
  case round =>
    obtain ⟨k, m, l, hk, hm, rfl, hl, hown, hll, hbel⟩ := hrel
    have hll' : l.length ≤ 10 := by omega
    have HLL := Lib.hid hll
    clear hll
    have hm64 : m < 18446744073709551616 := Nat.lt_of_lt_of_le hm (by
      have : (2 : Nat) ^ (64 - 7 * k) ≤ 2 ^ 64 := Nat.pow_le_pow_right (by omega) (by omega)
      exact this)
    have hNw : N ≤ wr.heap.size := by rw [HN.out]; exact hbel.size
    by_cases h128 : 128 ≤ m
    · have hd : decide (128 ≤ (m : Int)) = true := by simp; omega
      have hlb := lowByte m
      go_wp2_with (at_builtin; refine wpList_app1 wr rfl _ _ 22 rfl N 5 (.int .u8 0) 1 Try.underlying22 Try.info5 (by decide) rfl hown (by8 (UInt8.ofNat (m % 128 + 128))) rfl rfl rfl (by omega) hNw ?_; intro v' w' hown' hbel')
      have hk8 : k ≤ 8 := by
        rcases Nat.lt_or_ge 8 k with h | h
        · have : k = 9 := by omega
          subst this
          simp at hm
          omega
        · exact h
      have hm2 : m / 128 < 2 ^ (64 - 7 * (k + 1)) := by
        rw [show 64 - 7 * k = (64 - 7 * (k + 1)) + 7 from by omega, Nat.pow_add] at hm
        exact Nat.div_lt_of_lt_mul (by rw [Nat.mul_comm]; exact hm)
      refine ⟨⟨k + 1, m / 128, l ++ [UInt8.ofNat (m % 128 + 128)], by omega, hm2, rfl, ?_, ?_, by simp [HLL.out], hbel.trans hbel'⟩, ?_⟩
      · rw [← hl, show 10 - k = (10 - (k + 1)) + 1 from by omega, Pk.putF_big _ _ h128]; simp
      · unfold OwnB; rw [List.length_append, List.map_append]; exact hown'
      · simp [intOf]; omega
    · have hd : decide (128 ≤ (m : Int)) = false := by simp; omega
      have hsb := smallByte m (by omega)
      go_wp2_with (at_builtin; refine wpList_app1 wr rfl _ _ 22 rfl N 5 (.int .u8 0) 1 Try.underlying22 Try.info5 (by decide) rfl hown (.int .u8 (m : Int)) rfl rfl rfl (by omega) hNw ?_; intro v' w' hown' hbel')
      go_ret
      refine ⟨v', rfl, ?_, hbel.trans hbel'⟩
      rw [← hsb] at hown'
      rw [← hl, show 10 - k = (9 - k) + 1 from by omega, Pk.putF_small _ _ (by omega)]
      unfold OwnB; rw [List.length_append, List.map_append]; exact hown'

theorem own_lit1 (w : World) (x : UInt8) : OwnB w.heap.size (w.alloc (.cells #[by8 x] 5)) (.slice (some ⟨w.heap.size, 0, none⟩) 1 1) [x] :=
  World.ownsRow_lit (base := w.heap.size) w #[by8 x] 1 (Nat.le_refl _) (by decide) rfl
theorem OwnB.form {N : Nat} {w : World} {v : Value} {l : List UInt8} (h : OwnB N w v l) : ∃ ao cap, v = .slice ao l.length cap ∧ (ao = none → cap = 0) ∧ Lie w ao (l.map by8) := by
  obtain ⟨ao, cap, hv, h1, h2, h3, h4⟩ := h.bts
  rw [List.length_map] at hv
  exact ⟨ao, cap, hv, h3, h4⟩
theorem bigByte (n : Nat) : ((UInt8.ofNat (n % 128 + 128)).toNat : Int) = (n : Int) % 128 + 128 := by
  rw [UInt8.toNat_ofNat']; omega

/-- the reference's: it calls itself -/
theorem refPutF_any (f : Nat) : ∀ (n : Nat) (w : World), n < 128 ^ f → f ≤ 10 → n < 18446744073709551616 → 0 < f →
    Calls Try.prog 22 #[u64 n] w fun e w' => ∃ v, e = .returned v ∧ OwnB w.heap.size w' v (Pk.putF f n) ∧ Below w.heap.size w w' := by
  induction f with
  | zero => intro n w _ _ _ h; omega
  | succ f ih =>
    intro n w hn hf hn64 _
    by_cases h128 : n < 128
    · have hd : ((n : Int) < 128) := by omega
      have hsb := smallByte n h128
      go_enter Try.func22, Try.ntmps22
      go_wp2_with fail
      go_ret
      refine ⟨_, rfl, ?_, (Below.refl _ _).alloc (Nat.le_refl _) _⟩
      rw [Pk.putF_small f n h128, ← hsb]
      exact own_lit1 w _
    · have hd : ¬ ((n : Int) < 128) := by omega
      have hbb := bigByte n
      have ho1 := own_lit1 w (UInt8.ofNat (n % 128 + 128))
      have HB := Lib.hid hbb
      have HO := Lib.hid ho1
      clear hbb ho1
      go_enter Try.func22, Try.ntmps22
      go_wp2_with fail
      refine (ih (n / 128) _ (by rw [Nat.pow_succ] at hn; exact Nat.div_lt_of_lt_mul (by rw [Nat.mul_comm]; exact hn)) (by omega) (by omega) (by
        rcases Nat.eq_zero_or_pos f with h | h
        · subst h; simp at hn; omega
        · exact h)).mono ?_
      rintro e w1 ⟨v1, rfl, hown1, hb1⟩
      obtain ⟨ao1, cap1, rfl, hn1, hlie1⟩ := hown1.form
      have hO1 : OwnB w.heap.size w1 (.slice (some ⟨w.heap.size, 0, none⟩) 1 1) [UInt8.ofNat (n % 128 + 128)] := by
        have := HO.out
        unfold by8 at this
        rw [HB.out] at this
        exact this.keep hb1
      have hz1 := hb1.size
      simp at hz1
      have hpl := Pk.putF_len f (n / 128)
      go_wp2_with (at_builtin; refine wpList_app w1 rfl _ _ 22 rfl w.heap.size 5 (.int .u8 0) 1 Try.underlying22 Try.info5 (by decide) rfl hO1 rfl ao1 (Pk.putF f (n / 128)).length cap1 ((Pk.putF f (n / 128)).map by8) rfl hn1 (by simp) hlie1 (by8_one _) (by simp; omega) (by omega) ?_; intro v2 w2 hown2 hgr2 hbel2)
      go_ret
      refine ⟨_, rfl, ?_, ?_⟩
      · rw [Pk.putF_big f n (by omega)]
        unfold OwnB
        rw [List.length_cons, Nat.add_comm]
        simpa using hown2
      · exact (((Below.refl _ _).alloc (Nat.le_refl _) _).trans (hb1.mono (by simp))).trans hbel2
theorem refPut_any (n : Nat) (w : World) (hn : n < 18446744073709551616) :
    Calls Try.prog 22 #[u64 n] w fun e w' => ∃ v, e = .returned v ∧ OwnB w.heap.size w' v (Pk.put n) ∧ Below w.heap.size w w' :=
  refPutF_any 10 n w (by have : (128 : Nat) ^ 10 = 1180591620717411303424 := by decide
                         omega) (by omega) hn (by omega)
end Go.Proofs.Ytlcnjinabfbglaa
