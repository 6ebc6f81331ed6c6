/- Frame: slices.Equal over bytes; the reference's Take. -/
import Derived.Test.YtlcnjinabfbglaaSr2
import Derived.Test.YtlcnjinabfbglaaPk4
import Derived.Test.YtlcnjinabfbglaaRows
import Derived.Lib.Zigzag
import Derived.Deep.RegionHeld3
namespace Go.Proofs.Ytlcnjinabfbglaa
open Go.RowKit

theorem Try.info5 : (Try.prog.info? 5).map (fun i => (i.zero, i.size, i.bytes)) = some (some (.int .u8 0), 1, 1) := by kernel_rfl
/-- a number of 64 bits -/
abbrev u64 (n : Nat) : Value := .int .u64 (n : Int)
/-- the call's own row of bytes -/
def OwnB (N : Nat) (w : World) (v : Value) (l : List UInt8) : Prop := w.ownsRow N 5 1 v l.length (l.map by8)
theorem OwnB.bts {N : Nat} {w : World} {v : Value} {l : List UInt8} (h : OwnB N w v l) : Bts w v l := Sli.own h
theorem OwnB.keep {N : Nat} {w w' : World} {v : Value} {l : List UInt8} (h : OwnB N w v l) (hb : Below w.heap.size w w') : OwnB N w' v l := by
  obtain ⟨h1, h2⟩ := h
  refine ⟨h1, ?_⟩
  rcases h2 with h2 | ⟨g, cap, cur, hv, hg, hh, r⟩
  · exact .inl h2
  · exact .inr ⟨g, cap, cur, hv, hg, by rw [hb.block g (Array.getElem?_eq_some_iff.1 hh).1]; exact hh, r⟩
theorem OwnB.mono {N M : Nat} {w : World} {v : Value} {l : List UInt8} (h : OwnB N w v l) (hM : M ≤ N) : OwnB M w v l := by
  obtain ⟨h1, h2⟩ := h
  refine ⟨h1, ?_⟩
  rcases h2 with h2 | ⟨g, cap, cur, hv, hg, hh, r⟩
  · exact .inl h2
  · exact .inr ⟨g, cap, cur, hv, by omega, hh, r⟩

set_option maxRecDepth 10000 in
theorem lowByte (n : Nat) : bits .or .u8 ((n : Int) % 256) 128 = ((UInt8.ofNat (n % 128 + 128)).toNat : Int) := by
  have h := u8_or_nat (n % 256) 128 (by omega) (by omega)
  have e1 : ((n % 256 : Nat) : Int) = (n : Int) % 256 := by push_cast; rfl
  rw [e1] at h
  rw [show (128 : Int) = ((128 : Nat) : Int) from rfl, h]
  congr 1
  rw [UInt8.toNat_ofNat']
  have e2 : n % 256 ||| 128 = n % 128 + 128 := by
    have : ∀ k, k < 256 → k ||| 128 = k % 128 + 128 := by decide +kernel
    rw [this _ (by omega)]; omega
  rw [e2]; omega
theorem smallByte (n : Nat) (h : n < 128) : ((UInt8.ofNat n).toNat : Int) = (n : Int) := by
  rw [UInt8.toNat_ofNat']; omega

set_option maxRecDepth 100000 in
theorem put_any (n : Nat) (w : World) (hn : n < 18446744073709551616) :
    Calls Try.prog 21 #[u64 n] w fun e w' => ∃ v, e = .returned v ∧ OwnB w.heap.size w' v (Pk.put n) ∧ Below w.heap.size w w' := by
  obtain ⟨N, hN⟩ : ∃ N, N = w.heap.size := ⟨_, rfl⟩
  have HN := Lib.hid hN
  rw [← hN]
  clear hN
  go_enter Try.func21, Try.ntmps21
  go_wp2_with fail
  go_loopw [0, 3] (fun c b wr => ∃ k m : Nat, ∃ l : List UInt8, k ≤ 9 ∧ m < 2 ^ (64 - 7 * k) ∧ c = u64 m ∧ l ++ Pk.putF (10 - k) m = Pk.put n ∧ OwnB N wr b l ∧ l.length = k ∧ Below N w wr) (fun c _ _ => (intOf c).toNat)
  case atStart => exact ⟨0, n, [], by omega, by simpa using hn, rfl, rfl, World.ownsRow_nil _ _ _ _, rfl, Below.refl _ _⟩
  case round =>
    obtain ⟨k, m, l, hk, hm, rfl, hl, hown, hll, hbel⟩ := hrel
    have hll' : l.length ≤ 10 := by omega
    have HLL := Lib.hid hll
    clear hll
    have hm64 : m < 18446744073709551616 := Nat.lt_of_lt_of_le hm (by
      have : (2 : Nat) ^ (64 - 7 * k) ≤ 2 ^ 64 := Nat.pow_le_pow_right (by omega) (by omega)
      exact this)
    have hNw : N ≤ wr.heap.size := by rw [HN.out]; exact hbel.size
    by_cases h128 : 128 ≤ m
    · have hd : decide (128 ≤ (m : Int)) = true := by simp; omega
      have hlb := lowByte m
      go_wp2_with (at_builtin; refine wpList_app1 wr rfl _ _ 22 rfl N 5 (.int .u8 0) 1 Try.underlying22 Try.info5 (by decide) rfl hown (by8 (UInt8.ofNat (m % 128 + 128))) rfl rfl rfl (by omega) hNw ?_; intro v' w' hown' hbel')
      have hk8 : k ≤ 8 := by
        rcases Nat.lt_or_ge 8 k with h | h
        · have : k = 9 := by omega
          subst this
          simp at hm
          omega
        · exact h
      have hm2 : m / 128 < 2 ^ (64 - 7 * (k + 1)) := by
        rw [show 64 - 7 * k = (64 - 7 * (k + 1)) + 7 from by omega, Nat.pow_add] at hm
        exact Nat.div_lt_of_lt_mul (by rw [Nat.mul_comm]; exact hm)
      refine ⟨⟨k + 1, m / 128, l ++ [UInt8.ofNat (m % 128 + 128)], by omega, hm2, rfl, ?_, ?_, by simp [HLL.out], hbel.trans hbel'⟩, ?_⟩
      · rw [← hl, show 10 - k = (10 - (k + 1)) + 1 from by omega, Pk.putF_big _ _ h128]; simp
      · unfold OwnB; rw [List.length_append, List.map_append]; exact hown'
      · simp [intOf]; omega
    · have hd : decide (128 ≤ (m : Int)) = false := by simp; omega
      have hsb := smallByte m (by omega)
      go_wp2_with (at_builtin; refine wpList_app1 wr rfl _ _ 22 rfl N 5 (.int .u8 0) 1 Try.underlying22 Try.info5 (by decide) rfl hown (.int .u8 (m : Int)) rfl rfl rfl (by omega) hNw ?_; intro v' w' hown' hbel')
      go_ret
      refine ⟨v', rfl, ?_, hbel.trans hbel'⟩
      rw [← hsb] at hown'
      rw [← hl, show 10 - k = (9 - k) + 1 from by omega, Pk.putF_small _ _ (by omega)]
      unfold OwnB; rw [List.length_append, List.map_append]; exact hown'

theorem own_lit1 (w : World) (x : UInt8) : OwnB w.heap.size (w.alloc (.cells #[by8 x] 5)) (.slice (some ⟨w.heap.size, 0, none⟩) 1 1) [x] :=
  World.ownsRow_lit (base := w.heap.size) w #[by8 x] 1 (Nat.le_refl _) (by decide) rfl
theorem OwnB.form {N : Nat} {w : World} {v : Value} {l : List UInt8} (h : OwnB N w v l) : ∃ ao cap, v = .slice ao l.length cap ∧ (ao = none → cap = 0) ∧ Lie w ao (l.map by8) := by
  obtain ⟨ao, cap, hv, h1, h2, h3, h4⟩ := h.bts
  rw [List.length_map] at hv
  exact ⟨ao, cap, hv, h3, h4⟩
theorem bigByte (n : Nat) : ((UInt8.ofNat (n % 128 + 128)).toNat : Int) = (n : Int) % 128 + 128 := by
  rw [UInt8.toNat_ofNat']; omega

/-- the reference's: it calls itself -/
theorem refPutF_any (f : Nat) : ∀ (n : Nat) (w : World), n < 128 ^ f → f ≤ 10 → n < 18446744073709551616 → 0 < f →
    Calls Try.prog 22 #[u64 n] w fun e w' => ∃ v, e = .returned v ∧ OwnB w.heap.size w' v (Pk.putF f n) ∧ Below w.heap.size w w' := by
  induction f with
  | zero => intro n w _ _ _ h; omega
  | succ f ih =>
    intro n w hn hf hn64 _
    by_cases h128 : n < 128
    · have hd : ((n : Int) < 128) := by omega
      have hsb := smallByte n h128
      go_enter Try.func22, Try.ntmps22
      go_wp2_with fail
      go_ret
      refine ⟨_, rfl, ?_, (Below.refl _ _).alloc (Nat.le_refl _) _⟩
      rw [Pk.putF_small f n h128, ← hsb]
      exact own_lit1 w _
    · have hd : ¬ ((n : Int) < 128) := by omega
      have hbb := bigByte n
      have ho1 := own_lit1 w (UInt8.ofNat (n % 128 + 128))
      have HB := Lib.hid hbb
      have HO := Lib.hid ho1
      clear hbb ho1
      go_enter Try.func22, Try.ntmps22
      go_wp2_with fail
      refine (ih (n / 128) _ (by rw [Nat.pow_succ] at hn; exact Nat.div_lt_of_lt_mul (by rw [Nat.mul_comm]; exact hn)) (by omega) (by omega) (by
        rcases Nat.eq_zero_or_pos f with h | h
        · subst h; simp at hn; omega
        · exact h)).mono ?_
      rintro e w1 ⟨v1, rfl, hown1, hb1⟩
      obtain ⟨ao1, cap1, rfl, hn1, hlie1⟩ := hown1.form
      have hO1 : OwnB w.heap.size w1 (.slice (some ⟨w.heap.size, 0, none⟩) 1 1) [UInt8.ofNat (n % 128 + 128)] := by
        have := HO.out
        unfold by8 at this
        rw [HB.out] at this
        exact this.keep hb1
      have hz1 := hb1.size
      simp at hz1
      have hpl := Pk.putF_len f (n / 128)
      go_wp2_with (at_builtin; refine wpList_app w1 rfl _ _ 22 rfl w.heap.size 5 (.int .u8 0) 1 Try.underlying22 Try.info5 (by decide) rfl hO1 rfl ao1 (Pk.putF f (n / 128)).length cap1 ((Pk.putF f (n / 128)).map by8) rfl hn1 (by simp) hlie1 (by8_one _) (by simp; omega) (by omega) ?_; intro v2 w2 hown2 hgr2 hbel2)
      go_ret
      refine ⟨_, rfl, ?_, ?_⟩
      · rw [Pk.putF_big f n (by omega)]
        unfold OwnB
        rw [List.length_cons, Nat.add_comm]
        simpa using hown2
      · exact (((Below.refl _ _).alloc (Nat.le_refl _) _).trans (hb1.mono (by simp))).trans hbel2
theorem refPut_any (n : Nat) (w : World) (hn : n < 18446744073709551616) :
    Calls Try.prog 22 #[u64 n] w fun e w' => ∃ v, e = .returned v ∧ OwnB w.heap.size w' v (Pk.put n) ∧ Below w.heap.size w w' :=
  refPutF_any 10 n w (by have : (128 : Nat) ^ 10 = 1180591620717411303424 := by decide
                         omega) (by omega) hn (by omega)
end Go.Proofs.Ytlcnjinabfbglaa
namespace Go.Proofs.Ytlcnjinabfbglaa
open Go.RowKit

theorem xor_ones (x : Nat) (hx : x < 18446744073709551616) : x ^^^ 18446744073709551615 = 18446744073709551615 - x := by
  have h2 := BitVec.toNat_not (x := BitVec.ofNat 64 x)
  have h3 : (~~~ (BitVec.ofNat 64 x)) = BitVec.ofNat 64 x ^^^ BitVec.allOnes 64 := by
    apply BitVec.eq_of_getLsbD_eq
    intro i hi
    rw [BitVec.getLsbD_not, BitVec.getLsbD_xor, BitVec.getLsbD_allOnes]
    simp [hi]
  rw [h3, BitVec.toNat_xor, BitVec.toNat_ofNat, BitVec.toNat_allOnes, Nat.mod_eq_of_lt hx] at h2
  exact h2
theorem zig_pos_eq (m : Int) (h : 0 ≤ m) (h2 : m ≤ 9223372036854775807) : bits .xor .u64 (m * 2) (m / 9223372036854775808) = ((Pk.zig m : Nat) : Int) := by
  have hz : Pk.zig m = (2 * m).toNat := by unfold Pk.zig; rw [if_pos h]
  have h0 : m / 9223372036854775808 = ((0 : Nat) : Int) := by omega
  obtain ⟨x, hx⟩ : ∃ x : Nat, (x : Int) = m * 2 := ⟨(m * 2).toNat, by omega⟩
  rw [h0, ← hx, u64_xor_nat x 0 (by omega) (by omega), Nat.xor_zero, hz]
  omega
theorem zig_neg_eq (m : Int) (h : m < 0) (h1 : -9223372036854775808 ≤ m) :
    bits .xor .u64 (IntKind.u64.wrap (IntKind.u64.wrap m * 2)) (IntKind.u64.wrap (m / 9223372036854775808)) = ((Pk.zig m : Nat) : Int) := by
  have hz : Pk.zig m = (-2 * m - 1).toNat := by unfold Pk.zig; rw [if_neg (by omega)]
  have e1 : IntKind.u64.wrap (m / 9223372036854775808) = ((18446744073709551615 : Nat) : Int) := by
    rw [IntKind.wrap_u64]; omega
  obtain ⟨x, hx⟩ : ∃ x : Nat, (x : Int) = IntKind.u64.wrap (IntKind.u64.wrap m * 2) := by
    rw [IntKind.wrap_u64, IntKind.wrap_u64]
    exact ⟨(m % 18446744073709551616 * 2 % 18446744073709551616).toNat, by omega⟩
  have hx2 := hx
  rw [IntKind.wrap_u64, IntKind.wrap_u64] at hx2
  have hxl : x < 18446744073709551616 := by omega
  rw [← hx, e1, u64_xor_nat x 18446744073709551615 hxl (by omega), xor_ones x hxl, hz]
  omega
theorem zig_pos_ref (m : Int) (h : 0 ≤ m) : 2 * m = ((Pk.zig m : Nat) : Int) := by unfold Pk.zig; rw [if_pos h]; omega
theorem zig_neg_ref (m : Int) (h : m < 0) : 2 * -(m + 1) + 1 = ((Pk.zig m : Nat) : Int) := by unfold Pk.zig; rw [if_neg (by omega)]; omega

set_option maxRecDepth 100000 in
theorem putInt_any (m : Int) (w : World) (h1 : -9223372036854775808 ≤ m) (h2 : m ≤ 9223372036854775807) :
    Calls Try.prog 23 #[.int .i64 m] w fun e w' => ∃ v, e = .returned v ∧ OwnB w.heap.size w' v (Pk.put (Pk.zig m)) ∧ Below w.heap.size w w' := by
  have hz := Pk.zig_lt m h1 h2
  by_cases h : 0 ≤ m
  · have hq := Lib.hid (zig_pos_eq m h h2)
    go_enter Try.func23, Try.ntmps23
    go_wp2_with fail
    rw [hq.out]
    refine (put_any _ _ hz).mono ?_
    rintro e w1 ⟨v1, rfl, hown1, hb1⟩
    go_wp2_with fail
    go_ret
    exact ⟨v1, rfl, hown1, hb1⟩
  · have hq := Lib.hid (zig_neg_eq m (by omega) h1)
    go_enter Try.func23, Try.ntmps23
    go_wp2_with fail
    rw [hq.out]
    refine (put_any _ _ hz).mono ?_
    rintro e w1 ⟨v1, rfl, hown1, hb1⟩
    go_wp2_with fail
    go_ret
    exact ⟨v1, rfl, hown1, hb1⟩
theorem refPutInt_any (m : Int) (w : World) (h1 : -9223372036854775808 ≤ m) (h2 : m ≤ 9223372036854775807) :
    Calls Try.prog 24 #[.int .i64 m] w fun e w' => ∃ v, e = .returned v ∧ OwnB w.heap.size w' v (Pk.put (Pk.zig m)) ∧ Below w.heap.size w w' := by
  have hz := Pk.zig_lt m h1 h2
  by_cases h : 0 ≤ m
  · have hq := Lib.hid (zig_pos_ref m h)
    go_enter Try.func24, Try.ntmps24
    go_wp2_with fail
    rw [hq.out]
    refine (refPut_any _ _ hz).mono ?_
    rintro e w1 ⟨v1, rfl, hown1, hb1⟩
    go_wp2_with fail
    go_ret
    exact ⟨v1, rfl, hown1, hb1⟩
  · have hq := Lib.hid (zig_neg_ref m (by omega))
    go_enter Try.func24, Try.ntmps24
    go_wp2_with fail
    rw [hq.out]
    refine (refPut_any _ _ hz).mono ?_
    rintro e w1 ⟨v1, rfl, hown1, hb1⟩
    go_wp2_with fail
    go_ret
    exact ⟨v1, rfl, hown1, hb1⟩

/-- slices.Grow of nothing: room, and nothing in it -/
theorem grow_any (n : Nat) (w : World) (hn : n ≤ 1099511627776) :
    Calls Try.prog 77 #[.slice none 0 0, .int .i64 (n : Int)] w fun e w' => ∃ v, e = .returned v ∧ OwnB w.heap.size w' v [] ∧ Below w.heap.size w w' := by
  by_cases h : n = 0
  · subst h
    go_enter Try.func77, Try.ntmps77
    go_wp2_with fail
    go_ret
    exact ⟨_, rfl, World.ownsRow_nil _ _ _ _, Below.refl _ _⟩
  · have h0 : (0 : Int) < (n : Int) := by omega
    have hby : Try.t5.bytes = 1 := rfl
    have hns := nextslicecap_zero (show 0 < n by omega)
    have hcut := grownCap_ge w n 0 5
    have hcm := grownCap_le_maxLen w n 0 5 (by unfold maxLen; omega)
    have HG : RowKit.Hid (grownCap w n 0 5 = (Question.appendCap n 0 5).cut (w.tape w.drawn (Question.appendCap n 0 5))) := rfl
    obtain ⟨C, hC⟩ : ∃ C, C = grownCap w n 0 5 := ⟨_, rfl⟩
    rw [← hC] at hcut hcm HG
    clear hC
    go_enter Try.func77, Try.ntmps77
    go_wp2_with fail
    rw [← HG.out]
    go_ret
    refine ⟨_, rfl, ?_, ((Below.refl _ _).alloc (Nat.le_refl _) _).drew⟩
    refine World.ownsRow.drew ?_
    refine World.ownsRow_made w _ C (Nat.le_refl _) hcm ?_
    rw [Array.size_append, size_zeroCells, size_zeroCells]
    simp
    omega
end Go.Proofs.Ytlcnjinabfbglaa
namespace Go.Proofs.Ytlcnjinabfbglaa
open Go.RowKit

/-- rows of bytes, one a value -/
def Parts (w : World) (us : List Value) (ls : List (List UInt8)) : Prop := us.length = ls.length ∧ ∀ i, i < ls.length → ∃ u, us[i]? = some u ∧ Bts w u (ls.getD i [])
theorem Parts.keep {w w' : World} {us : List Value} {ls : List (List UInt8)} (h : Parts w us ls) (hb : Below w.heap.size w w') : Parts w' us ls :=
  ⟨h.1, fun i hi => by obtain ⟨u, h1, h2⟩ := h.2 i hi; exact ⟨u, h1, h2.keep hb⟩⟩
theorem flat_step (ls : List (List UInt8)) (k : Nat) (h : k < ls.length) : (ls.take (k + 1)).flatten = (ls.take k).flatten ++ ls.getD k [] := by
  rw [List.take_succ_eq_append_getElem h, List.flatten_append]
  simp [h]
theorem flat_le (ls : List (List UInt8)) (k : Nat) : (ls.take k).flatten.length ≤ ls.flatten.length := by
  conv => rhs; rw [← List.take_append_drop k ls, List.flatten_append, List.length_append]
  omega

set_option maxRecDepth 100000 in
theorem concat_any (v : Value) (us : List Value) (ls : List (List UInt8)) (w : World) (hS : Sli w v us) (hP : Parts w us ls) (hn : ls.flatten.length ≤ 1000000000) :
    Calls Try.prog 50 #[v] w fun e w' => ∃ v, e = .returned v ∧ OwnB w.heap.size w' v ls.flatten ∧ Below w.heap.size w w' := by
  obtain ⟨ao, cap, hv, h1, h2, h3, h4⟩ := id hS
  subst hv
  unfold maxLen at h2
  have hl := hP.1
  rw [hl] at hS h1 ⊢
  obtain ⟨N, hN⟩ : ∃ N, N = w.heap.size := ⟨_, rfl⟩
  have HN := Lib.hid hN
  have HL := Lib.hid hl
  rw [← hN]
  clear hN h4 hl
  go_enter Try.func50, Try.ntmps50
  go_wp2_with fail
  go_loop [3, 11] (fun s i => ∃ k : Nat, k ≤ ls.length ∧ i = .int .i64 k ∧ s = .int .i64 ((ls.take k).flatten.length : Nat)) (fun _ i => ls.length - (intOf i).toNat)
  case atStart => exact ⟨0, Nat.zero_le _, rfl, rfl⟩
  case round =>
    obtain ⟨k, hk, rfl, rfl⟩ := hrel
    by_cases hlt : k < ls.length
    · obtain ⟨b, off, rfl, hbl, hc⟩ := Sli.at hS (by rw [HL.out]; omega)
      obtain ⟨u, hu, hbu⟩ := hP.2 k hlt
      have hck := hc k u hu
      obtain ⟨ao2, cap2, rfl, -, hm2, -⟩ := hbu.form
      unfold maxLen at hm2
      have hfs := congrArg List.length (flat_step ls k hlt)
      rw [List.length_append] at hfs
      have hle := flat_le ls (k + 1)
      obtain ⟨A, hA⟩ : ∃ A, A = (ls.take k).flatten.length := ⟨_, rfl⟩
      obtain ⟨B, hB⟩ : ∃ B, B = (ls.getD k []).length := ⟨_, rfl⟩
      have hle2 : A + B ≤ 1000000000 := by omega
      rw [← hA, ← hB] at hfs
      rw [← hB] at hck
      rw [← hA]
      have HFS := Lib.hid hfs
      clear hA hB hfs hle hc hbu hu
      go_wp2_with fail
      exact ⟨⟨k + 1, by omega, by go_num, by rw [HFS.out]; go_num⟩, by simp [intOf]; omega⟩
    · have hkn : k = ls.length := by omega
      subst hkn
      obtain ⟨A, hA⟩ : ∃ A, A = (ls.take ls.length).flatten.length := ⟨_, rfl⟩
      have hAl : A ≤ 1000000000 := by rw [hA, List.take_length]; exact hn
      rw [← hA]
      clear hA
      go_wp2_with (go_at_call 77; refine (grow_any _ _ (by omega)).mono ?_; rintro e w1 ⟨v1, rfl, hown1, hb1⟩)
      rw [← HN.out] at hown1
      go_loopw [6, 27] (fun o i wr => ∃ k : Nat, k ≤ ls.length ∧ i = .int .i64 k ∧ OwnB N wr o (ls.take k).flatten ∧ Below w.heap.size w wr) (fun _ i _ => ls.length - (intOf i).toNat)
      case atStart => exact ⟨0, Nat.zero_le _, rfl, hown1, hb1⟩
      case round =>
        clear hown1 hb1
        obtain ⟨k, hk, rfl, hown, hbel⟩ := hrel
        by_cases hlt : k < ls.length
        · have hdk : decide ((k : Int) < (ls.length : Int)) = true := by simp; omega
          obtain ⟨b, off, rfl, hbl, hc⟩ := Sli.at (hS.keep hbel) (by rw [HL.out]; omega)
          obtain ⟨u, hu, hbu⟩ := (hP.keep hbel).2 k hlt
          have hck := hc k u hu
          obtain ⟨ao2, cap2, rfl, -, hm2, hn2⟩ := hbu.form
          unfold maxLen at hm2
          have hlie := Sli.lie hbu
          have hfs := flat_step ls k hlt
          have hle := flat_le ls (k + 1)
          have hfl := congrArg List.length hfs
          rw [List.length_append] at hfl
          obtain ⟨A, hA⟩ : ∃ A, A = (ls.take k).flatten := ⟨_, rfl⟩
          obtain ⟨B, hB⟩ : ∃ B, B = ls.getD k [] := ⟨_, rfl⟩
          rw [← hA, ← hB] at hfs hfl
          have hle2 : A.length + B.length ≤ 1000000000 := by omega
          rw [← hB] at hck hlie
          rw [← hA] at hown
          have HFS := Lib.hid hfs
          have hNw : N ≤ wr.heap.size := by rw [HN.out]; exact hbel.size
          clear hA hB hfs hfl hle hc hbu hu
          go_wp2_with (at_builtin; refine wpList_app wr rfl _ _ 22 rfl N 5 (.int .u8 0) 1 Try.underlying22 Try.info5 (by decide) rfl hown rfl ao2 B.length cap2 (B.map by8) rfl hn2 (by simp) hlie (by8_one _) (by omega) hNw ?_; intro v2 w2 hown2 hgr2 hbel2)
          exact ⟨⟨k + 1, by omega, by go_num, by rw [HFS.out]; unfold OwnB; rw [List.length_append, List.map_append]; exact hown2, hbel.trans (by rw [← HN.out]; exact hbel2)⟩, by simp [intOf]; omega⟩
        · have hkn : k = ls.length := by omega
          subst hkn
          rw [List.take_length] at hown
          go_wp2_with fail
          go_ret
          exact ⟨_, rfl, hown, by rw [HN.out]; exact hbel⟩

theorem join_any (v : Value) (us : List Value) (ls : List (List UInt8)) (w : World) (hS : Sli w v us) (hP : Parts w us ls) (hn : ls.flatten.length ≤ 1000000000) :
    Calls Try.prog 25 #[v] w fun e w' => ∃ v, e = .returned v ∧ OwnB w.heap.size w' v ls.flatten ∧ Below w.heap.size w w' := by
  go_enter Try.func25, Try.ntmps25
  go_wp2_with (go_at_call 50; refine (concat_any _ us ls _ hS hP hn).mono ?_; rintro e w1 ⟨v1, rfl, hown1, hb1⟩)
  go_ret
  exact ⟨_, rfl, hown1, hb1⟩
end Go.Proofs.Ytlcnjinabfbglaa
namespace Go.Proofs.Ytlcnjinabfbglaa
open Go.RowKit

/-- the bytes of a string -/
def sb (s : ByteArray) : List UInt8 := s.data.toList
theorem sb_len (s : ByteArray) : (sb s).length = s.size := by simp [sb]
theorem str_bts (w : World) (s : ByteArray) (cap : Nat) (fr : Nat × Nat) (h1 : s.size ≤ cap) (h2 : cap ≤ maxLen) :
    Bts (w.alloc (.cells (bytesRow s cap) 5 fr)) (.slice (some ⟨w.heap.size, 0, none⟩) s.size cap) (sb s) := by
  refine ⟨_, cap, by rw [List.length_map, sb_len], by rw [List.length_map, sb_len]; exact h1, h2, (fun h => by cases h), fun j u hu => ⟨_, rfl, ?_⟩⟩
  rw [Addr.add_lit, Nat.zero_add, World.cell?_alloc_mark]
  have hj := (List.getElem?_eq_some_iff.1 hu).1
  rw [List.length_map, sb_len] at hj
  unfold bytesRow
  rw [Array.getElem?_append_left (by simpa using hj)]
  rw [← hu]
  simp [sb]

/-- two rows laid side by side, ahead of Join -/
theorem two_parts {w1 : World} {a b : Value} {la lb : List UInt8} {n : Nat} {O : Obj} (ha : Bts w1 a la) (hb : Bts (w1.alloc O) b lb) (hn : n = w1.heap.size + 1) :
    Sli ((w1.alloc O).alloc (.cells #[a, b] 22)).drew (.slice (some ⟨n, 0, none⟩) 2 2) [a, b] ∧ Parts ((w1.alloc O).alloc (.cells #[a, b] 22)).drew [a, b] [la, lb] := by
  have hs : (w1.alloc O).heap.size = w1.heap.size + 1 := by simp
  have hA : Below w1.heap.size w1 ((w1.alloc O).alloc (.cells #[a, b] 22)) := ((Below.refl _ _).alloc (Nat.le_refl _) _).alloc (by omega) _
  have hB : Below (w1.alloc O).heap.size (w1.alloc O) ((w1.alloc O).alloc (.cells #[a, b] 22)) := (Below.refl _ _).alloc (Nat.le_refl _) _
  refine ⟨?_, rfl, fun i hi => ?_⟩
  · have := Sli.lit (w1.alloc O) [a, b] 22 (0, 0) (by unfold maxLen; simp)
    rw [hs, ← hn] at this
    exact this.drew
  · match i, hi with
    | 0, _ => exact ⟨a, rfl, (ha.keep hA).drew⟩
    | 1, _ => exact ⟨b, rfl, (hb.keep hB).drew⟩

set_option maxRecDepth 100000 in
theorem putText_any (s : ByteArray) (w : World) (hs : s.size ≤ 140737488351232) :
    Calls Try.prog 19 #[.string s] w fun e w' => ∃ v, Below w.heap.size w w' ∧ ((s.size ≤ 4096 ∧ e = .returned (.tuple #[v, .int .i64 0]) ∧ OwnB w.heap.size w' v (Pk.putText (sb s))) ∨ (4096 < s.size ∧ e = .returned (.tuple #[.slice none 0 0, .int .i64 3]))) := by
  have hcv := fun w => run_bytes_of_string (P := Try.prog) w 9 22 5 s Try.underlying9 Try.underlying22 Try.underlying5
  by_cases h : 4096 < s.size
  · have h' : (4096 : Int) < (s.size : Int) := by omega
    go_enter Try.func19, Try.ntmps19
    go_wp2_with fail
    go_ret2
    exact ⟨.slice none 0 0, Below.refl _ _, .inr ⟨h, rfl⟩⟩
  · have h' : ¬ (4096 : Int) < (s.size : Int) := by omega
    go_enter Try.func19, Try.ntmps19
    go_wp2_with (go_at_call 21; refine (put_any _ _ (by omega)).mono ?_; rintro e w1 ⟨v1, rfl, hown1, hb1⟩; obtain ⟨ao1, cap1, rfl, hn1, hlie1⟩ := hown1.form)
    have hcap := grownCap_ge w1 s.size 0 5
    have hcm := grownCap_le_maxLen w1 s.size 0 5 (by unfold maxLen; omega)
    have htp := two_parts (n := w1.heap.size + 1) hown1.bts (str_bts w1 s (grownCap w1 s.size 0 5) ((bytesRow s (grownCap w1 s.size 0 5)).size, (bytesRow s (grownCap w1 s.size 0 5)).size + 1) hcap hcm) rfl
    have hpl := Pk.put_len s.size
    refine (join_any _ _ [Pk.put s.size, sb s] _ htp.1 htp.2 (by simp [sb_len]; omega)).mono ?_
    rintro e w2 ⟨v2, rfl, hown2, hb2⟩
    clear htp hcv
    go_wp2_with fail
    go_ret2
    have hz := hb1.size
    refine ⟨v2, ((((hb1.alloc hz _).alloc (by simp; omega) _).drew).trans (hb2.mono (by simp; omega))), .inl ⟨by omega, rfl, ?_⟩⟩
    have e1 : [Pk.put s.size, sb s].flatten = Pk.putText (sb s) := by simp [Pk.putText, sb_len]
    rw [e1] at hown2
    exact hown2.mono (by simp; omega)

theorem refPutText_any (s : ByteArray) (w : World) (hs : s.size ≤ 140737488351232) :
    Calls Try.prog 20 #[.string s] w fun e w' => ∃ v, Below w.heap.size w w' ∧ ((s.size ≤ 4096 ∧ e = .returned (.tuple #[v, .int .i64 0]) ∧ OwnB w.heap.size w' v (Pk.putText (sb s))) ∨ (4096 < s.size ∧ e = .returned (.tuple #[.slice none 0 0, .int .i64 3]))) := by
  have hcv := fun w => run_bytes_of_string (P := Try.prog) w 9 22 5 s Try.underlying9 Try.underlying22 Try.underlying5
  by_cases h : 4096 < s.size
  · have h' : (4096 : Int) < (s.size : Int) := by omega
    go_enter Try.func20, Try.ntmps20
    go_wp2_with fail
    go_ret2
    exact ⟨.slice none 0 0, Below.refl _ _, .inr ⟨h, rfl⟩⟩
  · have h' : ¬ (4096 : Int) < (s.size : Int) := by omega
    go_enter Try.func20, Try.ntmps20
    go_wp2_with (first
      | (go_at_call 22; refine (refPut_any _ _ (by omega)).mono ?_; rintro e w1 ⟨v1, rfl, hown1, hb1⟩; obtain ⟨ao1, cap1, rfl, hn1, hlie1⟩ := hown1.form)
      | (at_builtin; refine wpList_app (w1.alloc (.cells (bytesRow s (grownCap w1 s.size 0 5)) 5 ((bytesRow s (grownCap w1 s.size 0 5)).size, (bytesRow s (grownCap w1 s.size 0 5)).size + 1))).drew rfl _ _ 22 rfl w.heap.size 5 (.int .u8 0) 1 Try.underlying22 Try.info5 (by decide) rfl (hown1.keep (((Below.refl _ _).alloc (Nat.le_refl _) _).drew)) rfl (some ⟨w1.heap.size, 0, none⟩) s.size (grownCap w1 s.size 0 5) ((sb s).map by8) rfl (fun h => by cases h) (by rw [List.length_map, sb_len]) (Sli.lie (str_bts w1 s (grownCap w1 s.size 0 5) _ (grownCap_ge w1 s.size 0 5) (grownCap_le_maxLen w1 s.size 0 5 (by unfold maxLen; omega))).drew) (by8_one _) (by have := Pk.put_len s.size; omega) (by have := hb1.size; simp; omega) ?_; intro v2 w2 hown2 hgr2 hbel2))
    go_ret2
    have hz := hb1.size
    refine ⟨v2, ((hb1.alloc hz _).drew).trans hbel2, .inl ⟨by omega, rfl, ?_⟩⟩
    unfold OwnB Pk.putText
    rw [List.length_append, List.map_append, sb_len]
    exact hown2
end Go.Proofs.Ytlcnjinabfbglaa
namespace Go.Proofs.Ytlcnjinabfbglaa
open Go.RowKit

theorem Try.size5 : (Try.prog.info? 5).map (·.size) = some 1 := by kernel_rfl
/-- what Take hands back -/
def takeV : Option (Nat × Nat) → Value
  | none => .tuple #[.int .u64 0, .int .i64 0, .int .i64 4]
  | some (n, j) => .tuple #[u64 n, .int .i64 (j : Int), .int .i64 0]

theorem and127 (x : UInt8) : bits .and .u8 (x.toNat : Int) 127 = ((x.toNat % 128 : Nat) : Int) := by
  have := u8_and_nat x.toNat 127 x.toNat_lt (by omega)
  rw [show (127 : Int) = ((127 : Nat) : Int) from rfl, this]
  congr 1
  exact Nat.and_two_pow_sub_one_eq_mod x.toNat 7
theorem or_val (n k : Nat) (x : UInt8) (hn : n < 2 ^ (7 * k)) (hk : k ≤ 8 ∨ (k = 9 ∧ x.toNat ≤ 1)) :
    bits .or .u64 (n : Int) (IntKind.u64.wrap (IntKind.u64.wrap (bits .and .u8 (x.toNat : Int) 127) * 2 ^ (7 * k))) = ((n + x.toNat % 128 * 2 ^ (7 * k) : Nat) : Int) ∧ n + x.toNat % 128 * 2 ^ (7 * k) < 18446744073709551616 := by
  have hx : x.toNat % 128 < 128 := by omega
  obtain ⟨p, hp⟩ : ∃ p, p = 2 ^ (7 * k) := ⟨_, rfl⟩
  have hb : x.toNat % 128 * p + p ≤ 18446744073709551616 := by
    rcases hk with h | ⟨h, h1⟩
    · have : p ≤ 2 ^ 56 := by rw [hp]; exact Nat.pow_le_pow_right (by omega) (by omega)
      have h3 : (x.toNat % 128 + 1) * p ≤ 128 * 2 ^ 56 := Nat.mul_le_mul (by omega) this
      rw [Nat.add_mul, Nat.one_mul] at h3
      have : (128 : Nat) * 2 ^ 56 = 9223372036854775808 := by decide
      omega
    · subst h
      have h2 : p = 9223372036854775808 := by rw [hp]
      have h3 : (x.toNat % 128 + 1) * p ≤ 2 * p := Nat.mul_le_mul (by omega) (Nat.le_refl _)
      rw [Nat.add_mul, Nat.one_mul] at h3
      omega
  rw [← hp] at hn ⊢
  have e1 : IntKind.u64.wrap (bits .and .u8 (x.toNat : Int) 127) = ((x.toNat % 128 : Nat) : Int) := by
    rw [and127, IntKind.wrap_u64]; omega
  have e2 : IntKind.u64.wrap (((x.toNat % 128 : Nat) : Int) * 2 ^ (7 * k)) = ((x.toNat % 128 * p : Nat) : Int) := by
    have : ((x.toNat % 128 : Nat) : Int) * 2 ^ (7 * k) = ((x.toNat % 128 * p : Nat) : Int) := by
      rw [hp]; push_cast; rfl
    rw [this, IntKind.wrap_u64]
    omega
  rw [e1, e2]
  obtain ⟨y, hy⟩ : ∃ y, y = x.toNat % 128 * p := ⟨_, rfl⟩
  have hdiv : y % 2 ^ (7 * k) = 0 := by rw [hy, hp]; exact Nat.mul_mod_left _ _
  rw [← hy] at hb ⊢
  refine ⟨?_, by omega⟩
  rw [u64_or_nat n y (by omega) (by omega), Nat.or_comm, nat_join (7 * k) y n hdiv (by rw [← hp]; exact hn), Nat.add_comm]
theorem grow_lt (n k m : Nat) (hn : n < 2 ^ (7 * k)) (hm : m < 128) : n + m * 2 ^ (7 * k) < 2 ^ (7 * (k + 1)) := by
  rw [show 7 * (k + 1) = 7 * k + 7 from by omega, Nat.pow_add]
  have h3 : (m + 1) * 2 ^ (7 * k) ≤ 128 * 2 ^ (7 * k) := Nat.mul_le_mul (by omega) (Nat.le_refl _)
  rw [Nat.add_mul, Nat.one_mul] at h3
  have : 2 ^ (7 * k) * 2 ^ 7 = 128 * 2 ^ (7 * k) := by rw [Nat.mul_comm]
  omega

theorem take_arg (v : Value) (l : List UInt8) (at_ : Int) (w : World) (hB : Bts w v l) (h : at_ < 0 ∨ (l.length : Int) < at_) :
    Calls Try.prog 26 #[v, .int .i64 at_] w fun e w' => e = .returned (.tuple #[.int .u64 0, .int .i64 0, .int .i64 2]) ∧ w = w' := by
  obtain ⟨ao, cap, rfl, h1, h2, h3⟩ := hB.form
  unfold maxLen at h2
  by_cases h0 : at_ < 0
  · go_enter Try.func26, Try.ntmps26
    go_wp2_with fail
    go_ret3
    exact ⟨rfl, rfl⟩
  · have h4 : (l.length : Int) < at_ := by omega
    go_enter Try.func26, Try.ntmps26
    go_wp2_with fail
    go_ret3
    exact ⟨rfl, rfl⟩

set_option maxRecDepth 100000 in
theorem take_any (v : Value) (l : List UInt8) (at_ : Nat) (w : World) (hB : Bts w v l) (hat : at_ ≤ l.length) (_hl : l.length ≤ 140737488351232) :
    Calls Try.prog 26 #[v, .int .i64 (at_ : Int)] w fun e w' => e = .returned (takeV (Pk.take l at_)) ∧ w = w' := by
  obtain ⟨ao, cap, rfl, h1, h2, h3⟩ := hB.form
  unfold maxLen at h2
  obtain ⟨V, hV, hBV⟩ := cut_l (P := Try.prog) Try.underlying22 Try.size5 ao l.length cap at_ hat
  have hD : Bts w V (l.drop at_) := Bts.drop (hBV w _ hB (by simp))
  obtain ⟨ao2, cap2, rfl, k1, k2, k3⟩ := hD.form
  unfold maxLen at k2
  obtain ⟨d, hd⟩ : ∃ d, d = l.drop at_ := ⟨_, rfl⟩
  have hdl : d.length = l.length - at_ := by rw [hd]; simp
  have hT : takeV (Pk.take l at_) = takeV ((Pk.tkF d 0 0).map fun p => (p.1, at_ + p.2)) := by rw [hd]; rfl
  rw [hT]
  rw [← hd] at hD k1 hV
  have hdl2 : d.length + at_ ≤ l.length := by omega
  have h4 : ¬ (at_ : Int) < 0 := by omega
  have h5 : ¬ (l.length : Int) < (at_ : Int) := by omega
  obtain ⟨F, hF⟩ : ∃ F : Option (Nat × Nat) → Value, F = fun t => takeV (t.map fun p => (p.1, at_ + p.2)) := ⟨_, rfl⟩
  have HF := Lib.hid hF
  rw [show takeV ((Pk.tkF d 0 0).map fun p => (p.1, at_ + p.2)) = F (Pk.tkF d 0 0) from by rw [hF]]
  clear hF hT hBV hd hdl
  go_enter Try.func26, Try.ntmps26
  go_wp2_with fail
  go_loop [4, 21] (fun c i => ∃ k n : Nat, k ≤ 9 ∧ k ≤ d.length ∧ i = .int .i64 k ∧ c = u64 n ∧ n < 2 ^ (7 * k) ∧ Pk.tkF d 0 0 = Pk.tkF (d.drop k) k n) (fun _ i => d.length - (intOf i).toNat)
  case atStart => exact ⟨0, 0, by omega, Nat.zero_le _, rfl, rfl, by simp, rfl⟩
  case round =>
    obtain ⟨k, n, hk9, hk, rfl, rfl, hn, htk⟩ := hrel
    have hn63 : n < 9223372036854775808 := Nat.lt_of_lt_of_le hn (by
      have : (2 : Nat) ^ (7 * k) ≤ 2 ^ 63 := Nat.pow_le_pow_right (by omega) (by omega)
      exact this)
    have HN := Lib.hid hn
    clear hn
    by_cases hlt : k < d.length
    · obtain ⟨b, off, rfl, hbl, hc⟩ := Bts.at hD (by omega)
      have hck := hc k hlt
      have hdd : d.drop k = d.getD k 0 :: d.drop (k + 1) := by
        rw [List.drop_eq_getElem_cons hlt]; simp [hlt]
      obtain ⟨x, hx⟩ : ∃ x, x = d.getD k 0 := ⟨_, rfl⟩
      rw [← hx] at hck hdd
      rw [hdd] at htk
      have HTK := Lib.hid htk
      have hx256 := x.toNat_lt
      clear hx hdd hc htk
      by_cases hA : k = 9 ∧ 1 < x.toNat
      · have HR : RowKit.Hid (F (Pk.tkF d 0 0) = takeV none) := by
          show _ = _
          rw [HTK.out, HF.out, Pk.tkF, if_pos (.inl hA)]; rfl
        obtain ⟨rfl, hx1⟩ := hA
        have hx1' : (1 : Int) < (x.toNat : Int) := by omega
        go_wp2_with fail
        go_ret3
        exact ⟨ret_val HR.out.symm, rfl⟩
      · by_cases hB2 : 0 < k ∧ x.toNat = 0
        · have HR : RowKit.Hid (F (Pk.tkF d 0 0) = takeV none) := by
            show _ = _
            rw [HTK.out, HF.out, Pk.tkF, if_pos (.inr hB2)]; rfl
          have hk0 : (0 : Int) < (k : Int) := by omega
          have hx0 : ((x.toNat : Int) == 0) = true := by simp; omega
          have hx1 : ¬ (1 : Int) < (x.toNat : Int) := by omega
          go_wp2_with fail
          all_goals go_ret3
          all_goals exact ⟨ret_val HR.out.symm, rfl⟩
        · have hno : ¬ ((k = 9 ∧ 1 < x.toNat) ∨ (0 < k ∧ x.toNat = 0)) := by omega
          have hcase : k = 0 ∨ (0 < k ∧ k < 9 ∧ 0 < x.toNat) ∨ (k = 9 ∧ x.toNat ≤ 1 ∧ 0 < x.toNat) := by omega
          obtain ⟨hv, hv64⟩ := or_val n k x HN.out (by omega)
          have hgl := grow_lt n k (x.toNat % 128) HN.out (by omega)
          obtain ⟨M, hM⟩ : ∃ M, M = n + x.toNat % 128 * 2 ^ (7 * k) := ⟨_, rfl⟩
          rw [← hM] at hv hv64 hgl
          have hstep : Pk.tkF (x :: d.drop (k + 1)) k n = if x.toNat < 128 then some (M, k + 1) else Pk.tkF (d.drop (k + 1)) (k + 1) M := by
            rw [Pk.tkF, if_neg hno, ← hM]
          rw [hstep] at HTK
          clear hM hstep
          have HGL := Lib.hid hgl
          clear hgl
          by_cases h128 : x.toNat < 128
          · have hx128 : (x.toNat : Int) < 128 := by omega
            have HR : RowKit.Hid (F (Pk.tkF d 0 0) = .tuple #[u64 M, .int .i64 ((at_ : Int) + (k : Int) + 1), .int .i64 0]) := by
              show _ = _
              rw [HTK.out, if_pos h128, HF.out]
              simp only [Option.map_some, takeV]
              rw [show ((at_ + (k + 1) : Nat) : Int) = (at_ : Int) + (k : Int) + 1 from by omega]
            rcases hcase with ha | ⟨ha, hb, hc0⟩ | ⟨ha, hb, hc0⟩
            · have f1 : ((k : Int) == 9) = false := by simp; omega
              have f3 : ¬ (0 : Int) < (k : Int) := by omega
              clear ha
              go_wp2_with fail
              go_ret3
              exact ⟨ret_val HR.out.symm, rfl⟩
            · have f1 : ((k : Int) == 9) = false := by simp; omega
              have f2 : ((x.toNat : Int) == 0) = false := by simp; omega
              have f3 : (0 : Int) < (k : Int) := by omega
              go_wp2_with fail
              go_ret3
              exact ⟨ret_val HR.out.symm, rfl⟩
            · have f1 : ((k : Int) == 9) = true := by simp; omega
              have f2 : ((x.toNat : Int) == 0) = false := by simp; omega
              have f3 : ¬ (1 : Int) < (x.toNat : Int) := by omega
              have f4 : (0 : Int) < (k : Int) := by omega
              clear ha
              go_wp2_with fail
              go_ret3
              exact ⟨ret_val HR.out.symm, rfl⟩
          · have hx128 : ¬ (x.toNat : Int) < 128 := by omega
            have HT2 : RowKit.Hid (Pk.tkF d 0 0 = Pk.tkF (d.drop (k + 1)) (k + 1) M) := by
              show _ = _
              rw [HTK.out, if_neg h128]
            have f1 : ((k : Int) == 9) = false := by simp; omega
            have f2 : ((x.toNat : Int) == 0) = false := by simp; omega
            by_cases ha : 0 < k
            · have f3 : (0 : Int) < (k : Int) := by omega
              go_wp2_with fail
              exact ⟨⟨k + 1, M, by omega, by omega, by go_num, rfl, HGL.out, HT2.out⟩, by simp [intOf]; omega⟩
            · have f3 : ¬ (0 : Int) < (k : Int) := by omega
              go_wp2_with fail
              exact ⟨⟨k + 1, M, by omega, by omega, by go_num, rfl, HGL.out, HT2.out⟩, by simp [intOf]; omega⟩
    · have hkd : k = d.length := by omega
      have HR : RowKit.Hid (F (Pk.tkF d 0 0) = takeV none) := by
        show _ = _
        rw [htk, hkd, List.drop_length, HF.out]; rfl
      clear htk hkd
      go_wp2_with fail
      go_ret3
      exact ⟨ret_val HR.out.symm, rfl⟩
end Go.Proofs.Ytlcnjinabfbglaa
namespace Go.Proofs.Ytlcnjinabfbglaa
open Go.RowKit

/-- string(b) -/
theorem conv_str {w : World} {v : Value} {l : List UInt8} (h : Bts w v l) : (convert 22 9 v).run Try.prog w = .ok (.string ⟨l.toArray⟩) w := by
  obtain ⟨ao, cap, rfl, h1, h2, h3⟩ := h.form
  cases ao with
  | some a =>
    refine run_convert_bytes_back w 22 9 5 a cap l Try.underlying22 Try.underlying5 Try.underlying9 fun j hj => ?_
    obtain ⟨ad, ha, hc⟩ := (Sli.lie h) j (by8 l[j]) (by simp [hj])
    obtain rfl := Option.some.inj ha
    exact hc
  | none =>
    have hc0 := h3 rfl
    have hl : l = [] := List.eq_nil_of_length_eq_zero (by omega)
    subst hl
    subst hc0
    exact (run_convert_bytes_string w 22 9 5 none 0 0 Try.underlying22 Try.underlying5 Try.underlying9).trans rfl
theorem p_take1 : takeV (Pk.take [172, 2] 0) = .tuple #[.int .u64 300, .int .i64 2, .int .i64 0] := by
  have : Pk.take [172, 2] 0 = some (300, 2) := by decide +kernel
  rw [this]; rfl
theorem p_take2 : takeV (Pk.take [128, 0] 0) = .tuple #[.int .u64 0, .int .i64 0, .int .i64 4] := by
  have : Pk.take [128, 0] 0 = none := by decide +kernel
  rw [this]; rfl
theorem p_take3 : takeV (Pk.take [128] 0) = .tuple #[.int .u64 0, .int .i64 0, .int .i64 4] := by
  have : Pk.take [128] 0 = none := by decide +kernel
  rw [this]; rfl
theorem p_put0 : Pk.put 0 = [0] := by decide +kernel
theorem p_put300 : Pk.put 300 = [172, 2] := by decide +kernel
theorem p_zm1 : Pk.put (Pk.zig (-1)) = [1] := by decide +kernel
theorem p_z1 : Pk.put (Pk.zig 1) = [2] := by decide +kernel
def ab : ByteArray := ⟨#[97, 98]⟩
theorem p_ab : Pk.putText (sb ab) = [2, 97, 98] := by decide +kernel

/-- a literal's row -/
theorem lit_bts (w : World) (l : List UInt8) (n : Nat) (hn : n = w.heap.size) (hl : l.length ≤ 1000000) : Bts (w.alloc (.cells (l.map by8).toArray 5)) (.slice (some ⟨n, 0, none⟩) l.length l.length) l := by
  subst hn
  have := Sli.lit w (l.map by8) 5 (0, 0) (by rw [List.length_map]; unfold maxLen; omega)
  rw [List.length_map] at this
  exact this

set_option maxRecDepth 100000 in
theorem known01_any (w : World) : Calls Try.prog 18 #[] w fun e w' => e = .returned (.bool true) ∧ Below w.heap.size w w' := by
  go_enter Try.func18, Try.ntmps18
  go_wp2_with fail
  refine (take_any _ [172, 2] 0 _ (lit_bts _ [172, 2] _ rfl (by decide)) (by decide) (by decide)).mono ?_
  rw [p_take1]
  rintro e w1 ⟨rfl, rfl⟩
  go_wp2_with fail
  refine (take_any _ [128, 0] 0 _ (lit_bts _ [128, 0] _ (by simp) (by decide)) (by decide) (by decide)).mono ?_
  rw [p_take2]
  rintro e w1 ⟨rfl, rfl⟩
  go_wp2_with fail
  refine (take_any _ [128] 0 _ (lit_bts _ [128] _ (by simp) (by decide)) (by decide) (by decide)).mono ?_
  rw [p_take3]
  rintro e w1 ⟨rfl, rfl⟩
  go_wp2_with fail
  refine (putText_any ab _ (by decide)).mono ?_
  rintro e w1 ⟨v1, hb1, ⟨-, rfl, hown1⟩ | ⟨h, -⟩⟩
  · rw [p_ab] at hown1
    have hb01 : Below w.heap.size w w1 := ((((Below.refl _ _).alloc (Nat.le_refl _) _).alloc (by simp) _).alloc (by simp; omega) _).trans (hb1.mono (by simp; omega))
    have hB1 := hown1.bts
    clear hb1 hown1
    go_wp2_with fail
    rw [show (.int .u64 0 : Value) = u64 0 from rfl]
    refine (put_any 0 _ (by decide)).mono ?_
    rw [p_put0]
    rintro e w2 ⟨v2, rfl, hown2, hb2⟩
    have hc2 := conv_str hown2.bts
    have hB1 := hB1.keep hb2
    have hb02 := Below.call hb01 hb2
    clear hb2 hown2 hb01
    go_wp2_with fail
    rw [show (.int .u64 300 : Value) = u64 300 from rfl]
    refine (put_any 300 _ (by decide)).mono ?_
    rw [p_put300]
    rintro e w3 ⟨v3, rfl, hown3, hb3⟩
    have hc3 := conv_str hown3.bts
    have hB1 := Sli.keep hB1 hb3
    have hb03 := Below.call hb02 hb3
    clear hb3 hown3 hb02 hc2
    go_wp2_with fail
    refine (putInt_any (-1) _ (by decide) (by decide)).mono ?_
    rw [p_zm1]
    rintro e w4 ⟨v4, rfl, hown4, hb4⟩
    have hc4 := conv_str hown4.bts
    have hB1 := Sli.keep hB1 hb4
    have hb04 := Below.call hb03 hb4
    clear hb4 hown4 hb03 hc3
    go_wp2_with fail
    refine (putInt_any 1 _ (by decide) (by decide)).mono ?_
    rw [p_z1]
    rintro e w5 ⟨v5, rfl, hown5, hb5⟩
    have hc5 := conv_str hown5.bts
    have hB1 := Sli.keep hB1 hb5
    have hb05 := Below.call hb04 hb5
    have hc1 := conv_str (l := [2, 97, 98]) hB1
    clear hb5 hown5 hb04 hc4
    go_wp2_with fail
    go_ret
    exact ⟨rfl, hb05⟩
  · exact absurd h (by decide)
end Go.Proofs.Ytlcnjinabfbglaa
namespace Go.Proofs.Ytlcnjinabfbglaa
open Go.RowKit

theorem Pk.tk_lt : ∀ (l : List UInt8) (i n v j : Nat), i ≤ 9 → n < 2 ^ (7 * i) → Pk.tkF l i n = some (v, j) → v < 18446744073709551616 := by
  intro l
  induction l with
  | nil => intro i n v j _ _ h; simp [Pk.tkF] at h
  | cons x r ih =>
    intro i n v j hi hn h
    rw [Pk.tkF] at h
    split at h
    · cases h
    · rename_i h1
      have hcase : i ≤ 8 ∨ (i = 9 ∧ x.toNat ≤ 1) := by omega
      have hov := (or_val n i x hn hcase).2
      split at h
      · simp only [Option.some.injEq, Prod.mk.injEq] at h
        omega
      · rename_i h2
        exact ih (i + 1) _ v j (by omega) (grow_lt n i (x.toNat % 128) hn (by omega)) h
theorem Pk.take_lt (l : List UInt8) (at_ v j : Nat) (h : Pk.take l at_ = some (v, j)) : v < 18446744073709551616 := by
  unfold Pk.take at h
  obtain ⟨⟨v', j'⟩, h1, h2⟩ := Option.map_eq_some_iff.1 h
  simp only [Prod.mk.injEq] at h2
  have := Pk.tk_lt _ 0 0 _ _ (by omega) (by simp) h1
  omega

theorem i64_xor_zero (x : Nat) (hx : x < 9223372036854775808) : bits .xor .i64 (x : Int) 0 = (x : Int) := by
  show IntKind.i64.wrap ((BitVec.ofInt 64 (x : Int) ^^^ BitVec.ofInt 64 0).toNat : Int) = _
  have h1 : (BitVec.ofInt 64 0).toNat = 0 := by decide
  have h2 : (BitVec.ofInt 64 (x : Int)).toNat = x := by
    rw [BitVec.ofInt_natCast, BitVec.toNat_ofNat]; exact Nat.mod_eq_of_lt (by omega)
  rw [BitVec.toNat_xor, h1, h2, Nat.xor_zero, IntKind.wrap_i64]
  omega
theorem i64_xor_ones (x : Nat) (hx : x < 9223372036854775808) : bits .xor .i64 (x : Int) (-1) = -(x : Int) - 1 := by
  show IntKind.i64.wrap ((BitVec.ofInt 64 (x : Int) ^^^ BitVec.ofInt 64 (-1)).toNat : Int) = _
  have h1 : (BitVec.ofInt 64 (-1)).toNat = 2 ^ 64 - 1 := by decide
  have h2 : (BitVec.ofInt 64 (x : Int)).toNat = x := by
    rw [BitVec.ofInt_natCast, BitVec.toNat_ofNat]; exact Nat.mod_eq_of_lt (by omega)
  rw [BitVec.toNat_xor, h1, h2, Nat.xor_comm, Lib.xor_ones64 x (by omega), IntKind.wrap_i64]
  omega
/-- what TakeInt hands back -/
def takeIV : Option (Nat × Nat) → Value
  | none => .tuple #[.int .i64 0, .int .i64 0, .int .i64 4]
  | some (n, j) => .tuple #[.int .i64 (Pk.unzig n), .int .i64 (j : Int), .int .i64 0]
set_option maxRecDepth 100000 in
theorem takeInt_any (v : Value) (l : List UInt8) (at_ : Nat) (w : World) (hB : Bts w v l) (hat : at_ ≤ l.length) (hl : l.length ≤ 140737488351232) :
    Calls Try.prog 27 #[v, .int .i64 (at_ : Int)] w fun e w' => e = .returned (takeIV (Pk.take l at_)) ∧ w = w' := by
  have hT := take_any v l at_ w hB hat hl
  cases ht : Pk.take l at_ with
  | none =>
    rw [ht] at hT
    have hx0 : bits .xor .i64 0 0 = 0 := i64_xor_zero 0 (by omega)
    have ha0 : bits .and .u64 0 1 = 0 := Lib.u64_and1 0 (by omega) (by omega)
    go_enter Try.func27, Try.ntmps27
    go_wp2_with (go_at_call 26; refine hT.mono ?_; rintro e w1 ⟨rfl, rfl⟩; unfold takeV)
    go_ret3
    exact ⟨rfl, rfl⟩
  | some p =>
    obtain ⟨n, j⟩ := p
    have hn := Pk.take_lt l at_ n j ht
    rw [ht] at hT
    have hand : bits .and .u64 (n : Int) 1 = (n : Int) % 2 := Lib.u64_and1 n (by omega) (by omega)
    have hU : takeIV (some (n, j)) = .tuple #[.int .i64 (Pk.unzig n), .int .i64 (j : Int), .int .i64 0] := rfl
    have hj := Pk.take_le l at_ n j ht hat
    rcases Nat.mod_two_eq_zero_or_one n with hp | hp
    · obtain ⟨k, rfl⟩ : ∃ k, n = 2 * k := ⟨n / 2, by omega⟩
      have hu : Pk.unzig (2 * k) = (k : Int) := by unfold Pk.unzig; rw [if_pos (by omega)]; omega
      rw [hU, hu]
      have h1 : ((2 * k : Nat) : Int) / 2 = (k : Int) := by omega
      have h2 : bits .and .u64 ((2 * k : Nat) : Int) 1 = 0 := by rw [hand]; omega
      have h3 := i64_xor_zero k (by omega)
      obtain ⟨N, hN⟩ : ∃ N : Int, N = ((2 * k : Nat) : Int) := ⟨_, rfl⟩
      have hT' : takeV (some (2 * k, j)) = .tuple #[.int .u64 N, .int .i64 (j : Int), .int .i64 0] := by rw [hN]; rfl
      rw [hT'] at hT
      rw [← hN] at h1 h2
      clear hN hT' hu hU hand ht hp
      go_enter Try.func27, Try.ntmps27
      go_wp2_with (go_at_call 26; refine hT.mono ?_; rintro e w1 ⟨rfl, rfl⟩)
      go_ret3
      exact ⟨rfl, rfl⟩
    · obtain ⟨k, rfl⟩ : ∃ k, n = 2 * k + 1 := ⟨n / 2, by omega⟩
      have hu : Pk.unzig (2 * k + 1) = -(k : Int) - 1 := by unfold Pk.unzig; rw [if_neg (by omega)]; omega
      rw [hU, hu]
      have h1 : ((2 * k + 1 : Nat) : Int) / 2 = (k : Int) := by omega
      have h2 : bits .and .u64 ((2 * k + 1 : Nat) : Int) 1 = 1 := by rw [hand]; omega
      have h3 := i64_xor_ones k (by omega)
      obtain ⟨N, hN⟩ : ∃ N : Int, N = ((2 * k + 1 : Nat) : Int) := ⟨_, rfl⟩
      have hT' : takeV (some (2 * k + 1, j)) = .tuple #[.int .u64 N, .int .i64 (j : Int), .int .i64 0] := by rw [hN]; rfl
      rw [hT'] at hT
      rw [← hN] at h1 h2
      clear hN hT' hu hU hand ht hp
      go_enter Try.func27, Try.ntmps27
      go_wp2_with (go_at_call 26; refine hT.mono ?_; rintro e w1 ⟨rfl, rfl⟩)
      go_ret3
      exact ⟨rfl, rfl⟩

theorem cut_hu {P : Program} {T E : TypeId} (ht : P.underlying T = some (.slice E)) (hz : (P.info? E).map (·.size) = some 1) (ao : Option Addr) (n cap h : Nat) (hh : h ≤ cap) :
    ∃ V, (∀ w, (Instr.slice T (.slice ao n cap) none (some (.int .u64 (h : Int))) none).run P w = .ok V w) ∧ ∀ w us, Sli w (.slice ao n cap) us → h ≤ us.length → Sli w V (us.take h) := by
  obtain ⟨i, hi, hs⟩ := Option.map_eq_some_iff.1 hz
  refine ⟨_, fun w => ?_, fun w us H hu => by have := H.cut (l := 0) (Nat.zero_le h) hu; simpa using this⟩
  simp [Instr.slice, run_underlying ht, Instr.sliceBounds, Instr.sliceBound, asIntOf, sizeOf, typeInfo, hi, hh]
/-- what TakeText hands back -/
def takeTV : Option (List UInt8 × Nat) → Value
  | none => .tuple #[.string ⟨#[]⟩, .int .i64 0, .int .i64 4]
  | some (s, j) => .tuple #[.string ⟨s.toArray⟩, .int .i64 (j : Int), .int .i64 0]
theorem none_any (e : Int) (w : World) : Calls Try.prog 51 #[.int .i64 e] w fun r w' => r = .returned (.tuple #[.string ⟨#[]⟩, .int .i64 0, .int .i64 e]) ∧ w = w' := by
  go_enter Try.func51, Try.ntmps51
  go_wp2_with fail
  go_ret3
  exact ⟨rfl, rfl⟩
set_option maxRecDepth 100000 in
theorem takeText_any (v : Value) (l : List UInt8) (at_ : Nat) (w : World) (hB : Bts w v l) (hat : at_ ≤ l.length) (hl : l.length ≤ 140737488351232) :
    Calls Try.prog 28 #[v, .int .i64 (at_ : Int)] w fun e w' => e = .returned (takeTV (Pk.takeText l at_)) ∧ w = w' := by
  have hT := take_any v l at_ w hB hat hl
  unfold Pk.takeText
  cases ht : Pk.take l at_ with
  | none =>
    rw [ht] at hT
    go_enter Try.func28, Try.ntmps28
    go_wp2_with (go_at_call 26; refine hT.mono ?_; rintro e w1 ⟨rfl, rfl⟩; unfold takeV)
    refine (none_any 4 _).mono ?_
    rintro e w1 ⟨rfl, rfl⟩
    go_wp2_with fail
    go_ret3
    exact ⟨rfl, rfl⟩
  | some p =>
    obtain ⟨n, j⟩ := p
    have hn := Pk.take_lt l at_ n j ht
    rw [ht] at hT
    have hj := Pk.take_le l at_ n j ht hat
    have hT' : takeV (some (n, j)) = .tuple #[.int .u64 (n : Int), .int .i64 (j : Int), .int .i64 0] := rfl
    rw [hT'] at hT
    simp only []
    obtain ⟨ao, cap, rfl, c1, c2, c3⟩ := hB.form
    unfold maxLen at c2
    clear hT' ht
    by_cases h1 : 4096 < n
    · have h1' : (4096 : Int) < (n : Int) := by omega
      rw [if_pos (.inl h1)]
      go_enter Try.func28, Try.ntmps28
      go_wp2_with (go_at_call 26; refine hT.mono ?_; rintro e w1 ⟨rfl, rfl⟩)
      refine (none_any 4 _).mono ?_
      rintro e w1 ⟨rfl, rfl⟩
      go_wp2_with fail
      go_ret3
      exact ⟨rfl, rfl⟩
    · have h1' : ¬ (4096 : Int) < (n : Int) := by omega
      have h3 : (l.length : Int) - (j : Int) < 18446744073709551616 := by omega
      have h4 : (0 : Int) ≤ (l.length : Int) - (j : Int) := by omega
      by_cases h2 : l.length - j < n
      · have h2' : (l.length : Int) - (j : Int) < (n : Int) := by omega
        rw [if_pos (.inr h2)]
        go_enter Try.func28, Try.ntmps28
        go_wp2_with (go_at_call 26; refine hT.mono ?_; rintro e w1 ⟨rfl, rfl⟩)
        refine (none_any 4 _).mono ?_
        rintro e w1 ⟨rfl, rfl⟩
        go_wp2_with fail
        go_ret3
        exact ⟨rfl, rfl⟩
      · have h2' : ¬ (l.length : Int) - (j : Int) < (n : Int) := by omega
        rw [if_neg (by omega)]
        obtain ⟨V, hV, hBV⟩ := cut_l (P := Try.prog) Try.underlying22 Try.size5 ao l.length cap j hj.2
        have hD : Bts w V (l.drop j) := Bts.drop (hBV w _ hB (by simp))
        obtain ⟨ao2, cap2, rfl, k1, k2, k3⟩ := hD.form
        have hdl : (l.drop j).length = l.length - j := by simp
        obtain ⟨V2, hV2, hBV2⟩ := cut_hu (P := Try.prog) Try.underlying22 Try.size5 ao2 (l.drop j).length cap2 n (by omega)
        have hE : Bts w V2 ((l.drop j).take n) := Bts.take (hBV2 w _ hD (by simp; omega))
        have hc := conv_str hE
        unfold maxLen at k2
        obtain ⟨d, hd⟩ : ∃ d, d = (l.drop j).length := ⟨_, rfl⟩
        have hjn : (j : Int) + (n : Int) ≤ 140737488351232 := by omega
        have hR : takeTV (some (List.take n (List.drop j l), j + n)) = .tuple #[.string ⟨(List.take n (List.drop j l)).toArray⟩, .int .i64 ((j : Int) + (n : Int)), .int .i64 0] := by
          unfold takeTV; simp
        rw [hR]
        rw [← hd] at hV hV2
        clear hBV hBV2 hD hE hd hdl hR k1 k3 c3
        go_enter Try.func28, Try.ntmps28
        go_wp2_with (go_at_call 26; refine hT.mono ?_; rintro e w1 ⟨rfl, rfl⟩)
        go_ret3
        exact ⟨rfl, rfl⟩
end Go.Proofs.Ytlcnjinabfbglaa
namespace Go.Proofs.Ytlcnjinabfbglaa
open Go.RowKit
theorem putText_le (s : ByteArray) (w : World) (hs : s.size ≤ 4096) :
    Calls Try.prog 19 #[.string s] w fun e w' => ∃ v, e = .returned (.tuple #[v, .int .i64 0]) ∧ Below w.heap.size w w' ∧ OwnB w.heap.size w' v (Pk.putText (sb s)) := by
  refine (putText_any s w (by omega)).mono ?_
  rintro e w1 ⟨v, hb, ⟨-, he, ho⟩ | ⟨h, -⟩⟩
  · exact ⟨v, he, hb, ho⟩
  · omega
theorem putText_gt (s : ByteArray) (w : World) (hs : 4096 < s.size) (h2 : s.size ≤ 140737488351232) :
    Calls Try.prog 19 #[.string s] w fun e w' => e = .returned (.tuple #[.slice none 0 0, .int .i64 3]) ∧ Below w.heap.size w w' := by
  refine (putText_any s w (by omega)).mono ?_
  rintro e w1 ⟨v, hb, ⟨h, -⟩ | ⟨-, he⟩⟩
  · omega
  · exact ⟨he, hb⟩
theorem refPutText_le (s : ByteArray) (w : World) (hs : s.size ≤ 4096) :
    Calls Try.prog 20 #[.string s] w fun e w' => ∃ v, e = .returned (.tuple #[v, .int .i64 0]) ∧ Below w.heap.size w w' ∧ OwnB w.heap.size w' v (Pk.putText (sb s)) := by
  refine (refPutText_any s w (by omega)).mono ?_
  rintro e w1 ⟨v, hb, ⟨-, he, ho⟩ | ⟨h, -⟩⟩
  · exact ⟨v, he, hb, ho⟩
  · omega
theorem refPutText_gt (s : ByteArray) (w : World) (hs : 4096 < s.size) (h2 : s.size ≤ 140737488351232) :
    Calls Try.prog 20 #[.string s] w fun e w' => e = .returned (.tuple #[.slice none 0 0, .int .i64 3]) ∧ Below w.heap.size w w' := by
  refine (refPutText_any s w (by omega)).mono ?_
  rintro e w1 ⟨v, hb, ⟨h, -⟩ | ⟨-, he⟩⟩
  · omega
  · exact ⟨he, hb⟩

/-- what holds in every world that may come: it may be said more sharply -/
theorem sharpen {P : Program} {md : Region.Mode} {ops : Array Oper} {Q : Exit → Act → World → Prop} {S S' : World → Prop} (hS : ∀ w, S' w → S w) :
    ∀ (fuel : Nat) (listed : Array Bool) (a : Act) (w : World), wpAnyH P md ops Q S' fuel listed a w → wpAnyH P md ops Q S fuel listed a w
  | 0, _, _, _, h => h
  | fuel + 1, _, _, _, h => ⟨h.1, fun i hi => wpOp_mono (fun a' w' h' => ⟨hS _ h'.1, sharpen hS fuel _ a' w' h'.2⟩) (h.2 i hi)⟩

end Go.Proofs.Ytlcnjinabfbglaa
namespace Go.Proofs.Ytlcnjinabfbglaa
open Go.RowKit
theorem eqInt (x y : UInt8) : (((x.toNat : Int) == (y.toNat : Int)) = true) ↔ x = y := by
  rw [beq_iff_eq]
  constructor
  · intro h; exact UInt8.toNat_inj.1 (by omega)
  · rintro rfl; rfl
theorem beq_upto (a b : List UInt8) (h : a.length = b.length) (he : ∀ j, j < a.length → a.getD j 0 = b.getD j 0) : a = b := by
  apply List.ext_getElem h
  intro i h1 h2
  have := he i h1
  simpa [h1, h2] using this
set_option maxRecDepth 100000 in
set_option maxHeartbeats 2000000 in
theorem equalB_any (va vb : Value) (a b : List UInt8) (w : World) (hA : Bts w va a) (hB : Bts w vb b) :
    Calls Try.prog 53 #[va, vb] w fun e w' => e = .returned (.bool (a == b)) ∧ Below w.heap.size w w' := by
  obtain ⟨ao, ca, rfl, a1, a2, a3⟩ := hA.form
  obtain ⟨bo, cb, rfl, b1, b2, b3⟩ := hB.form
  unfold maxLen at a2 b2
  by_cases hl : a.length = b.length
  · have h1 : ((a.length : Int) == (b.length : Int)) = true := by simp; omega
    have HL := Lib.hid hl
    clear hl
    go_enter Try.func53, Try.ntmps53
    go_wp2_with fail
    go_loopw [13] (fun i wr => ∃ k : Nat, k ≤ a.length ∧ i = .int .i64 k ∧ Below w.heap.size w wr ∧ ∀ j, j < k → a.getD j 0 = b.getD j 0) (fun i _ => a.length - (intOf i).toNat)
    case atStart => exact ⟨0, Nat.zero_le _, rfl, Below.refl _ _, by omega⟩
    case round =>
      obtain ⟨k, hk, rfl, hbel, hsame⟩ := hrel
      by_cases hlt : k < a.length
      · have hlt' : (k : Int) < (a.length : Int) := by omega
        have hltb' : (k : Int) < (b.length : Int) := by have := HL.out; omega
        obtain ⟨ba, offa, rfl, hbla, hca⟩ := Bts.at (hA.keep hbel) (by omega)
        obtain ⟨bb, offb, rfl, hblb, hcb⟩ := Bts.at (hB.keep hbel) (by have := HL.out; omega)
        have hcak := hca k hlt
        have hcbk := hcb k (by omega)
        obtain ⟨x, hx⟩ : ∃ x, x = a.getD k 0 := ⟨_, rfl⟩
        obtain ⟨y, hy⟩ : ∃ y, y = b.getD k 0 := ⟨_, rfl⟩
        rw [← hx] at hcak
        rw [← hy] at hcbk
        have HX := Lib.hid hx
        have HY := Lib.hid hy
        have HS := Lib.hid hsame
        clear hca hcb hx hy hsame
        by_cases hxy : x = y
        · subst hxy
          go_wp2_with fail
          go_region
          all_goals go_wp2_with fail
          all_goals exact ⟨⟨k + 1, by omega, by go_num, hbel.drew, fun j hj => by
            by_cases hjk : j = k
            · subst hjk; rw [← HX.out, ← HY.out]
            · exact HS.out j (by omega)⟩, by simp [intOf]; omega⟩
        · have hne : ((x.toNat : Int) == (y.toNat : Int)) = false := by rw [← Bool.not_eq_true, eqInt]; exact hxy
          have hab : (a == b) = false := by
            rw [beq_eq_false_iff_ne]
            rintro rfl
            exact hxy (HX.out.trans HY.out.symm)
          have HAB := Lib.hid hab
          clear hab hxy
          go_wp2_with fail
          go_region
          all_goals go_wp2_with fail
          all_goals go_ret
          all_goals exact ⟨ret_bool HAB.out.symm, hbel.drew⟩
      · have hkn : k = a.length := by omega
        subst hkn
        have hab : (a == b) = true := by
          rw [beq_iff_eq]
          exact beq_upto a b HL.out hsame
        have HAB := Lib.hid hab
        clear hab hsame
        go_wp2_with fail
        go_ret
        exact ⟨ret_bool HAB.out.symm, hbel⟩
  · have h1 : ((a.length : Int) == (b.length : Int)) = false := by simp; omega
    have hab : (a == b) = false := by
      rw [beq_eq_false_iff_ne]
      rintro rfl
      exact hl rfl
    rw [hab]
    clear hab hl
    go_enter Try.func53, Try.ntmps53
    go_wp2_with fail
    go_ret
    exact ⟨rfl, Below.refl _ _⟩
end Go.Proofs.Ytlcnjinabfbglaa
