/- Plain: where the records of bytes begin. -/
import Derived.Test.YtlcnjinabfbglaaFr2
namespace Go.Proofs.Ytlcnjinabfbglaa.Fr
open Pk Crc
/-- where record number k begins -/
def pos (l : List UInt8) : Nat → Nat
  | 0 => 0
  | k + 1 => pos l k + match first ck4 (l.drop (pos l k)) with
    | some (_, n) => n
    | none => 0
theorem pos_shift (l : List UInt8) (s : List UInt8) (n : Nat) (h : first ck4 l = some (s, n)) : ∀ k, pos l (k + 1) = n + pos (l.drop n) k
  | 0 => by
    show pos l 0 + (match first ck4 (l.drop (pos l 0)) with | some (_, n) => n | none => 0) = n + 0
    have : l.drop (pos l 0) = l := rfl
    rw [this, h]
    show 0 + n = n + 0
    omega
  | k + 1 => by
    have ih := pos_shift l s n h k
    show pos l (k + 1) + (match first ck4 (l.drop (pos l (k + 1))) with | some (_, n) => n | none => 0) = n + (pos (l.drop n) k + match first ck4 ((l.drop n).drop (pos (l.drop n) k)) with | some (_, n) => n | none => 0)
    rw [ih, List.drop_drop]
    omega
theorem first_le (l s : List UInt8) (n : Nat) (h : first ck4 l = some (s, n)) : 0 < n ∧ n ≤ l.length ∧ s.length ≤ 4096 ∧ s.length ≤ n := by
  obtain ⟨r, e1, e2, e3⟩ := first_some ck4_len l s n h
  have h1 := frame_pos (ck := ck4) s
  have h2 := congrArg List.length e1
  have h3 := frame_len ck4_len s
  have h4 : (putText s).length = (put s.length).length + s.length := by simp [putText]
  rw [List.length_append] at h2
  omega
theorem scanF_pos : ∀ (f : Nat) (l : List UInt8), l.length < f →
    (∀ k, k < (scanF ck4 f l).1.length → ∃ s n, first ck4 (l.drop (pos l k)) = some (s, n) ∧ (scanF ck4 f l).1[k]? = some s ∧ pos l (k + 1) = pos l k + n ∧ 0 < n ∧ pos l (k + 1) ≤ l.length) ∧
    first ck4 (l.drop (pos l (scanF ck4 f l).1.length)) = none ∧ (scanF ck4 f l).2 = pos l (scanF ck4 f l).1.length
  | f + 1, l, hf => by
    cases h : first ck4 l with
    | none =>
      rw [scanF, h]
      exact ⟨fun k hk => by simp at hk, h, rfl⟩
    | some p =>
      obtain ⟨s, n⟩ := p
      have hn := first_le l s n h
      obtain ⟨i1, i2, i3⟩ := scanF_pos f (l.drop n) (by rw [List.length_drop]; omega)
      have hs := pos_shift l s n h
      rw [scanF, h]
      simp only
      refine ⟨fun k hk => ?_, ?_, ?_⟩
      · cases k with
        | zero =>
          refine ⟨s, n, h, rfl, ?_, hn.1, ?_⟩
          · have := hs 0
            show pos l 1 = 0 + n
            rw [this]; show n + 0 = 0 + n; omega
          · have := hs 0
            show pos l 1 ≤ _
            rw [this]; show n + 0 ≤ _; omega
        | succ k =>
          obtain ⟨s', n', a1, a2, a3, a4, a5⟩ := i1 k (by simpa using hk)
          rw [List.drop_drop] at a1
          rw [List.length_drop] at a5
          refine ⟨s', n', by rw [hs k]; exact a1, by simpa using a2, by rw [hs (k + 1), hs k, a3]; omega, a4, by rw [hs (k + 1)]; omega⟩
      · rw [List.length_cons, hs]
        rw [List.drop_drop] at i2
        exact i2
      · rw [List.length_cons, hs, i3]
theorem scan_at (l : List UInt8) (k : Nat) (hk : k < (scan l).1.length) : ∃ s n, first ck4 (l.drop (pos l k)) = some (s, n) ∧ (scan l).1[k]? = some s ∧ pos l (k + 1) = pos l k + n ∧ 0 < n ∧ pos l (k + 1) ≤ l.length :=
  (scanF_pos _ l (Nat.lt_succ_self _)).1 k hk
theorem scan_end (l : List UInt8) : first ck4 (l.drop (pos l (scan l).1.length)) = none := (scanF_pos _ l (Nat.lt_succ_self _)).2.1
theorem scan_good (l : List UInt8) : (scan l).2 = pos l (scan l).1.length := (scanF_pos _ l (Nat.lt_succ_self _)).2.2
theorem pos_le (l : List UInt8) : ∀ k, k ≤ (scan l).1.length → pos l k ≤ l.length ∧ k ≤ pos l k
  | 0, _ => ⟨Nat.zero_le _, Nat.zero_le _⟩
  | k + 1, hk => by
    obtain ⟨s, n, a1, a2, a3, a4, a5⟩ := scan_at l k (by omega)
    have := pos_le l k (by omega)
    exact ⟨a5, by omega⟩
end Go.Proofs.Ytlcnjinabfbglaa.Fr
