import Derived.Test.YtaepkmjlkenenaaKit
import Derived.Test.YtaepkmjlkenenaaLt
import Derived.Test.YtaepkmjlkenenaaRows
namespace Go.Proofs.Ytaepkmjlkenenaa
open Go.RowKit

theorem Try.info2 : (Try.prog.info? 2).map (fun i => (i.zero, i.size, i.bytes)) = some (some (.int .i64 0), 1, 8) := by kernel_rfl
theorem Try.size2 : (Try.prog.info? 2).map (·.size) = some 1 := by kernel_rfl
/-- a moment as a value -/
abbrev i64v (x : Int) : Value := .int .i64 x
theorem i64_one (l : List Int) : ∀ u ∈ l.map i64v, u.oneCell' = true := by
  intro u hu
  obtain ⟨x, _, rfl⟩ := List.mem_map.1 hu
  rfl
/-- in world w the slice v reads as the moments l -/
abbrev Ints (w : World) (v : Value) (l : List Int) : Prop := Sli w v (l.map i64v)
theorem Ints.form {w : World} {v : Value} {l : List Int} (h : Ints w v l) : ∃ ao cap, v = .slice ao l.length cap ∧ l.length ≤ cap ∧ cap ≤ maxLen ∧ (ao = none → cap = 0) := by
  obtain ⟨ao, cap, hv, h1, h2, h3, _⟩ := h
  simp only [List.length_map] at hv h1
  exact ⟨ao, cap, hv, h1, h2, h3⟩
theorem Ints.at {w : World} {ao : Option Addr} {n cap : Nat} {l : List Int} (h : Ints w (.slice ao n cap) l) (hl : 0 < l.length) :
    ∃ b off, ao = some ⟨b, off, none⟩ ∧ b < w.heap.size ∧ ∀ i, i < l.length → w.cell? ⟨b, off + i, none⟩ = some (i64v (l.getD i 0)) := by
  obtain ⟨b, off, h1, h2, h3⟩ := Sli.at h (by simpa using hl)
  refine ⟨b, off, h1, h2, fun i hi => h3 i _ ?_⟩
  simp [hi]
theorem Ints.take {w : World} {v : Value} {l : List Int} {k : Nat} (h : Sli w v ((l.map i64v).take k)) : Ints w v (l.take k) := by
  unfold Ints; rw [List.map_take]; exact h
theorem Ints.drop {w : World} {v : Value} {l : List Int} {k : Nat} (h : Sli w v ((l.map i64v).drop k)) : Ints w v (l.drop k) := by
  unfold Ints; rw [List.map_drop]; exact h
/-- the call's own row of moments -/
def OwnI (N : Nat) (w : World) (v : Value) (l : List Int) : Prop := w.ownsRow N 2 1 v l.length (l.map i64v)
theorem OwnI.ints {N : Nat} {w : World} {v : Value} {l : List Int} (h : OwnI N w v l) : Ints w v l := Sli.own h
theorem OwnI.form {N : Nat} {w : World} {v : Value} {l : List Int} (h : OwnI N w v l) : ∃ ao cap, v = .slice ao l.length cap ∧ (ao = none → cap = 0) ∧ Lie w ao (l.map i64v) := by
  obtain ⟨ao, cap, hv, h1, h2, h3, h4⟩ := h.ints
  rw [List.length_map] at hv
  exact ⟨ao, cap, hv, h3, h4⟩

set_option maxRecDepth 100000 in
/-- slices.Grow of nothing: room, and nothing in it -/
theorem grow_any (n : Nat) (w : World) (hn : n ≤ 1099511627776) :
    Calls Try.prog 46 #[.slice none 0 0, .int .i64 (n : Int)] w fun e w' => ∃ v, e = .returned v ∧ OwnI w.heap.size w' v [] ∧ Below w.heap.size w w' := by
  by_cases h : n = 0
  · subst h
    go_enter Try.func46, Try.ntmps46
    go_wp2_with fail
    go_ret
    exact ⟨_, rfl, World.ownsRow_nil _ _ _ _, Below.refl _ _⟩
  · have h0 : (0 : Int) < (n : Int) := by omega
    have hby : Try.t2.bytes = 8 := rfl
    have hns := nextslicecap_zero (show 0 < n by omega)
    have hcut := grownCap_ge w n 0 2
    have hcm := grownCap_le_maxLen w n 0 2 (by unfold maxLen; omega)
    have HG : RowKit.Hid (grownCap w n 0 2 = (Question.appendCap n 0 2).cut (w.tape w.drawn (Question.appendCap n 0 2))) := rfl
    obtain ⟨C, hC⟩ : ∃ C, C = grownCap w n 0 2 := ⟨_, rfl⟩
    rw [← hC] at hcut hcm HG
    clear hC
    go_enter Try.func46, Try.ntmps46
    go_wp2_with fail
    rw [← HG.out]
    go_ret
    refine ⟨_, rfl, ?_, ((Below.refl _ _).alloc (Nat.le_refl _) _).drew⟩
    refine World.ownsRow.drew ?_
    refine World.ownsRow_made w _ C (Nat.le_refl _) hcm ?_
    rw [Array.size_append, size_zeroCells, size_zeroCells]
    simp
    omega

/-- rows of moments, one a value -/
def Parts (w : World) (us : List Value) (ls : List (List Int)) : Prop := us.length = ls.length ∧ ∀ i, i < ls.length → ∃ u, us[i]? = some u ∧ Ints w u (ls.getD i [])
theorem Parts.keep {w w' : World} {us : List Value} {ls : List (List Int)} (h : Parts w us ls) (hb : Below w.heap.size w w') : Parts w' us ls :=
  ⟨h.1, fun i hi => by obtain ⟨u, h1, h2⟩ := h.2 i hi; exact ⟨u, h1, h2.keep hb⟩⟩
theorem flat_step (ls : List (List Int)) (k : Nat) (h : k < ls.length) : (ls.take (k + 1)).flatten = (ls.take k).flatten ++ ls.getD k [] := by
  rw [List.take_succ_eq_append_getElem h, List.flatten_append]
  simp [h]
theorem flat_le (ls : List (List Int)) (k : Nat) : (ls.take k).flatten.length ≤ ls.flatten.length := by
  conv => rhs; rw [← List.take_append_drop k ls, List.flatten_append, List.length_append]
  omega

set_option maxRecDepth 100000 in
theorem concat_any (v : Value) (us : List Value) (ls : List (List Int)) (w : World) (hS : Sli w v us) (hP : Parts w us ls) (hn : ls.flatten.length ≤ 1000000000) :
    Calls Try.prog 29 #[v] w fun e w' => ∃ v, e = .returned v ∧ OwnI w.heap.size w' v ls.flatten ∧ Below w.heap.size w w' := by
  obtain ⟨ao, cap, hv, h1, h2, h3, h4⟩ := id hS
  subst hv
  unfold maxLen at h2
  have hl := hP.1
  rw [hl] at hS h1 ⊢
  obtain ⟨N, hN⟩ : ∃ N, N = w.heap.size := ⟨_, rfl⟩
  have HN := Lib.hid hN
  have HL := Lib.hid hl
  rw [← hN]
  clear hN h4 hl
  go_enter Try.func29, Try.ntmps29
  go_wp2_with fail
  go_loop [3, 11] (fun s i => ∃ k : Nat, k ≤ ls.length ∧ i = .int .i64 k ∧ s = .int .i64 ((ls.take k).flatten.length : Nat)) (fun _ i => ls.length - (intOf i).toNat)
  case atStart => exact ⟨0, Nat.zero_le _, rfl, rfl⟩
  case round =>
    obtain ⟨k, hk, rfl, rfl⟩ := hrel
    by_cases hlt : k < ls.length
    · obtain ⟨b, off, rfl, hbl, hc⟩ := Sli.at hS (by rw [HL.out]; omega)
      obtain ⟨u, hu, hbu⟩ := hP.2 k hlt
      have hck := hc k u hu
      obtain ⟨ao2, cap2, rfl, -, hm2, -⟩ := hbu.form
      unfold maxLen at hm2
      have hfs := congrArg List.length (flat_step ls k hlt)
      rw [List.length_append] at hfs
      have hle := flat_le ls (k + 1)
      obtain ⟨A, hA⟩ : ∃ A, A = (ls.take k).flatten.length := ⟨_, rfl⟩
      obtain ⟨B, hB⟩ : ∃ B, B = (ls.getD k []).length := ⟨_, rfl⟩
      have hle2 : A + B ≤ 1000000000 := by omega
      rw [← hA, ← hB] at hfs
      rw [← hB] at hck
      rw [← hA]
      have HFS := Lib.hid hfs
      clear hA hB hfs hle hc hbu hu
      go_wp2_with fail
      exact ⟨⟨k + 1, by omega, by go_num, by rw [HFS.out]; go_num⟩, by simp [intOf]; omega⟩
    · have hkn : k = ls.length := by omega
      subst hkn
      obtain ⟨A, hA⟩ : ∃ A, A = (ls.take ls.length).flatten.length := ⟨_, rfl⟩
      have hAl : A ≤ 1000000000 := by rw [hA, List.take_length]; exact hn
      rw [← hA]
      clear hA
      go_wp2_with (go_at_call 46; refine (grow_any _ _ (by omega)).mono ?_; rintro e w1 ⟨v1, rfl, hown1, hb1⟩)
      rw [← HN.out] at hown1
      go_loopw [6, 27] (fun o i wr => ∃ k : Nat, k ≤ ls.length ∧ i = .int .i64 k ∧ OwnI N wr o (ls.take k).flatten ∧ Below w.heap.size w wr) (fun _ i _ => ls.length - (intOf i).toNat)
      case atStart => exact ⟨0, Nat.zero_le _, rfl, hown1, hb1⟩
      case round =>
        clear hown1 hb1
        obtain ⟨k, hk, rfl, hown, hbel⟩ := hrel
        by_cases hlt : k < ls.length
        · have hdk : decide ((k : Int) < (ls.length : Int)) = true := by simp; omega
          obtain ⟨b, off, rfl, hbl, hc⟩ := Sli.at (hS.keep hbel) (by rw [HL.out]; omega)
          obtain ⟨u, hu, hbu⟩ := (hP.keep hbel).2 k hlt
          have hck := hc k u hu
          obtain ⟨ao2, cap2, rfl, -, hm2, hn2⟩ := hbu.form
          unfold maxLen at hm2
          have hlie := Sli.lie hbu
          have hfs := flat_step ls k hlt
          have hle := flat_le ls (k + 1)
          have hfl := congrArg List.length hfs
          rw [List.length_append] at hfl
          obtain ⟨A, hA⟩ : ∃ A, A = (ls.take k).flatten := ⟨_, rfl⟩
          obtain ⟨B, hB⟩ : ∃ B, B = ls.getD k [] := ⟨_, rfl⟩
          rw [← hA, ← hB] at hfs hfl
          have hle2 : A.length + B.length ≤ 1000000000 := by omega
          rw [← hB] at hck hlie
          rw [← hA] at hown
          have HFS := Lib.hid hfs
          have hNw : N ≤ wr.heap.size := by rw [HN.out]; exact hbel.size
          clear hA hB hfs hfl hle hc hbu hu
          go_wp2_with (at_builtin; refine wpList_app wr rfl _ _ 22 rfl N 2 (.int .i64 0) 8 Try.underlying22 Try.info2 (by decide) rfl hown rfl ao2 B.length cap2 (B.map i64v) rfl hn2 (by simp) hlie (i64_one _) (by omega) hNw ?_; intro v2 w2 hown2 hgr2 hbel2)
          exact ⟨⟨k + 1, by omega, by go_num, by rw [HFS.out]; unfold OwnI; rw [List.length_append, List.map_append]; exact hown2, hbel.trans (by rw [← HN.out]; exact hbel2)⟩, by simp [intOf]; omega⟩
        · have hkn : k = ls.length := by omega
          subst hkn
          rw [List.take_length] at hown
          go_wp2_with fail
          go_ret
          exact ⟨_, rfl, hown, by rw [HN.out]; exact hbel⟩

/-- two rows laid side by side, ahead of Concat -/
theorem two_parts {w : World} {a b : Value} {la lb : List Int} (ha : Ints w a la) (hb : Ints w b lb) :
    Sli (w.alloc (.cells #[a, b] 22)) (.slice (some ⟨w.heap.size, 0, none⟩) 2 2) [a, b] ∧ Parts (w.alloc (.cells #[a, b] 22)) [a, b] [la, lb] := by
  have hA : Below w.heap.size w (w.alloc (.cells #[a, b] 22)) := (Below.refl _ _).alloc (Nat.le_refl _) _
  refine ⟨Sli.lit w [a, b] 22 (0, 0) (by unfold maxLen; simp), rfl, fun i hi => ?_⟩
  match i, hi with
  | 0, _ => exact ⟨a, rfl, ha.keep hA⟩
  | 1, _ => exact ⟨b, rfl, hb.keep hA⟩

set_option maxRecDepth 100000 in
theorem clone_any (v : Value) (l : List Int) (w : World) (hI : Ints w v l) (hl : l.length ≤ 1000000000) :
    Calls Try.prog 30 #[v] w fun e w' => ∃ v, e = .returned v ∧ OwnI w.heap.size w' v l ∧ Below w.heap.size w w' := by
  have q22 : ∀ (w : World) (a : Option Addr) (n c n' c' : Nat), (binOp .eql 22 (.slice a n c) (.slice none n' c')).run Try.prog w = .ok (.bool a.isNone) w := fun w a n c n' c' => Lib.run_eql_slice_nil w _ _ a n c n' c' Try.underlying22
  obtain ⟨ao, cap, rfl, h1, h2, h3⟩ := hI.form
  have hlie := Sli.lie hI
  cases ao with
  | none =>
    have hc := h3 rfl
    have hl0 : l = [] := List.eq_nil_of_length_eq_zero (by omega)
    subst hl0
    subst hc
    go_enter Try.func30, Try.ntmps30
    go_wp2_with fail
    go_ret
    exact ⟨_, rfl, World.ownsRow_nil _ _ _ _, Below.refl _ _⟩
  | some ad =>
    have hown0 : (w.alloc (.cells #[] 2)).ownsRow w.heap.size 2 1 (.slice (some ⟨w.heap.size, 0, none⟩) 0 0) 0 [] := World.ownsRow_lit (base := w.heap.size) w #[] 0 (Nat.le_refl _) (by decide) rfl
    have hlie1 : Lie (w.alloc (.cells #[] 2)) (some ad) (l.map i64v) := hlie.keep ((Below.refl _ _).alloc (Nat.le_refl _) _)
    go_enter Try.func30, Try.ntmps30
    go_wp2_with (at_builtin; refine wpList_app _ rfl _ _ 22 rfl w.heap.size 2 (.int .i64 0) 8 Try.underlying22 Try.info2 (by decide) rfl hown0 rfl (some ad) l.length cap (l.map i64v) rfl (by intro h; cases h) (by simp) hlie1 (i64_one _) (by omega) (by simp) ?_; intro v2 w2 hown2 hgr2 hbel2)
    go_ret
    refine ⟨_, rfl, ?_, ((Below.refl _ _).alloc (Nat.le_refl _) _).trans hbel2⟩
    unfold OwnI
    simpa using hown2
end Go.Proofs.Ytaepkmjlkenenaa
