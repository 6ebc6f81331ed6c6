import Derived.Test.YtlcnjinabfbglaaP2
namespace Go.Proofs.Ytlcnjinabfbglaa
open Go.RowKit

/-- rows of bytes, one a value -/
def Parts (w : World) (us : List Value) (ls : List (List UInt8)) : Prop := us.length = ls.length ∧ ∀ i, i < ls.length → ∃ u, us[i]? = some u ∧ Bts w u (ls.getD i [])
theorem Parts.keep {w w' : World} {us : List Value} {ls : List (List UInt8)} (h : Parts w us ls) (hb : Below w.heap.size w w') : Parts w' us ls :=
  ⟨h.1, fun i hi => by obtain ⟨u, h1, h2⟩ := h.2 i hi; exact ⟨u, h1, h2.keep hb⟩⟩
theorem flat_step (ls : List (List UInt8)) (k : Nat) (h : k < ls.length) : (ls.take (k + 1)).flatten = (ls.take k).flatten ++ ls.getD k [] := by
  rw [List.take_succ_eq_append_getElem h, List.flatten_append]
  simp [h]
theorem flat_le (ls : List (List UInt8)) (k : Nat) : (ls.take k).flatten.length ≤ ls.flatten.length := by
  conv => rhs; rw [← List.take_append_drop k ls, List.flatten_append, List.length_append]
  omega

set_option maxRecDepth 100000 in
theorem concat_any (v : Value) (us : List Value) (ls : List (List UInt8)) (w : World) (hS : Sli w v us) (hP : Parts w us ls) (hn : ls.flatten.length ≤ 1000000000) :
    Calls Try.prog 50 #[v] w fun e w' => ∃ v, e = .returned v ∧ OwnB w.heap.size w' v ls.flatten ∧ Below w.heap.size w w' := by
  obtain ⟨ao, cap, hv, h1, h2, h3, h4⟩ := id hS
  subst hv
  unfold maxLen at h2
  have hl := hP.1
  rw [hl] at hS h1 ⊢
  obtain ⟨N, hN⟩ : ∃ N, N = w.heap.size := ⟨_, rfl⟩
  have HN := Lib.hid hN
  have HL := Lib.hid hl
  rw [← hN]
  clear hN h4 hl
  go_enter Try.func50, Try.ntmps50
  go_wp2_with fail
  go_loop [3, 11] (fun s i => ∃ k : Nat, k ≤ ls.length ∧ i = .int .i64 k ∧ s = .int .i64 ((ls.take k).flatten.length : Nat)) (fun _ i => ls.length - (intOf i).toNat)
  case atStart => exact ⟨0, Nat.zero_le _, rfl, rfl⟩
  case round =>
    obtain ⟨k, hk, rfl, rfl⟩ := hrel
    by_cases hlt : k < ls.length
    · obtain ⟨b, off, rfl, hbl, hc⟩ := Sli.at hS (by rw [HL.out]; omega)
      obtain ⟨u, hu, hbu⟩ := hP.2 k hlt
      have hck := hc k u hu
      obtain ⟨ao2, cap2, rfl, -, hm2, -⟩ := hbu.form
      unfold maxLen at hm2
      have hfs := congrArg List.length (flat_step ls k hlt)
      rw [List.length_append] at hfs
      have hle := flat_le ls (k + 1)
      obtain ⟨A, hA⟩ : ∃ A, A = (ls.take k).flatten.length := ⟨_, rfl⟩
      obtain ⟨B, hB⟩ : ∃ B, B = (ls.getD k []).length := ⟨_, rfl⟩
      have hle2 : A + B ≤ 1000000000 := by omega
      rw [← hA, ← hB] at hfs
      rw [← hB] at hck
      rw [← hA]
      have HFS := Lib.hid hfs
      clear hA hB hfs hle hc hbu hu
      go_wp2_with fail
      exact ⟨⟨k + 1, by omega, by go_num, by rw [HFS.out]; go_num⟩, by simp [intOf]; omega⟩
    · have hkn : k = ls.length := by omega
      subst hkn
      obtain ⟨A, hA⟩ : ∃ A, A = (ls.take ls.length).flatten.length := ⟨_, rfl⟩
      have hAl : A ≤ 1000000000 := by rw [hA, List.take_length]; exact hn
      rw [← hA]
      clear hA
      go_wp2_with (go_at_call 77; refine (grow_any _ _ (by omega)).mono ?_; rintro e w1 ⟨v1, rfl, hown1, hb1⟩)
      rw [← HN.out] at hown1
      go_loopw [6, 27] (fun o i wr => ∃ k : Nat, k ≤ ls.length ∧ i = .int .i64 k ∧ OwnB N wr o (ls.take k).flatten ∧ Below w.heap.size w wr) (fun _ i _ => ls.length - (intOf i).toNat)
      case atStart => exact ⟨0, Nat.zero_le _, rfl, hown1, hb1⟩
      case round =>
        clear hown1 hb1
        obtain ⟨k, hk, rfl, hown, hbel⟩ := hrel
        by_cases hlt : k < ls.length
        · have hdk : decide ((k : Int) < (ls.length : Int)) = true := by simp; omega
          obtain ⟨b, off, rfl, hbl, hc⟩ := Sli.at (hS.keep hbel) (by rw [HL.out]; omega)
          obtain ⟨u, hu, hbu⟩ := (hP.keep hbel).2 k hlt
          have hck := hc k u hu
          obtain ⟨ao2, cap2, rfl, -, hm2, hn2⟩ := hbu.form
          unfold maxLen at hm2
          have hlie := Sli.lie hbu
          have hfs := flat_step ls k hlt
          have hle := flat_le ls (k + 1)
          have hfl := congrArg List.length hfs
          rw [List.length_append] at hfl
          obtain ⟨A, hA⟩ : ∃ A, A = (ls.take k).flatten := ⟨_, rfl⟩
          obtain ⟨B, hB⟩ : ∃ B, B = ls.getD k [] := ⟨_, rfl⟩
          rw [← hA, ← hB] at hfs hfl
          have hle2 : A.length + B.length ≤ 1000000000 := by omega
          rw [← hB] at hck hlie
          rw [← hA] at hown
          have HFS := Lib.hid hfs
          have hNw : N ≤ wr.heap.size := by rw [HN.out]; exact hbel.size
          clear hA hB hfs hfl hle hc hbu hu
          go_wp2_with (at_builtin; refine wpList_app wr rfl _ _ 22 rfl N 5 (.int .u8 0) 1 Try.underlying22 Try.info5 (by decide) rfl hown rfl ao2 B.length cap2 (B.map by8) rfl hn2 (by simp) hlie (by8_one _) (by omega) hNw ?_; intro v2 w2 hown2 hgr2 hbel2)
          exact ⟨⟨k + 1, by omega, by go_num, by rw [HFS.out]; unfold OwnB; rw [List.length_append, List.map_append]; exact hown2, hbel.trans (by rw [← HN.out]; exact hbel2)⟩, by simp [intOf]; omega⟩
        · have hkn : k = ls.length := by omega
          subst hkn
          rw [List.take_length] at hown
          go_wp2_with fail
          go_ret
          exact ⟨_, rfl, hown, by rw [HN.out]; exact hbel⟩

theorem join_any (v : Value) (us : List Value) (ls : List (List UInt8)) (w : World) (hS : Sli w v us) (hP : Parts w us ls) (hn : ls.flatten.length ≤ 1000000000) :
    Calls Try.prog 25 #[v] w fun e w' => ∃ v, e = .returned v ∧ OwnB w.heap.size w' v ls.flatten ∧ Below w.heap.size w w' := by
  go_enter Try.func25, Try.ntmps25
  go_wp2_with (go_at_call 50; refine (concat_any _ us ls _ hS hP hn).mono ?_; rintro e w1 ⟨v1, rfl, hown1, hb1⟩)
  go_ret
  exact ⟨_, rfl, hown1, hb1⟩
end Go.Proofs.Ytlcnjinabfbglaa
