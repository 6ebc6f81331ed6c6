import Derived.Test.YtaepkmjlkenenaaF11
namespace Go.Proofs.Ytaepkmjlkenenaa
open Go.RowKit Go.Shelf
attribute [local go_sem] Oper.semAt_some

def kF (a s : Int) : Fi.Fire := ⟨1, a, s, 0, 0, 0, 0⟩
abbrev kFV (a s : Int) : Value := .agg #[.int .u64 1, .int .i64 a, .int .i64 s, .int .i64 0, .int .u64 0, .int .u64 0, .int .i64 0]
def kR : Fi.Rule := ⟨2, 1, 2⟩
theorem rusLit (w : World) (r : Fi.Rule) : Rus (w.alloc (.cells #[.int .u8 r.kind, .int .u64 r.job, .int .i64 r.n] 34)) (.slice (some ⟨w.heap.size, 0, none⟩) 1 1) [r] := by
  have h := World.ownsRow_lit (base := w.heap.size) (e := 34) (size := 3) w #[.int .u8 r.kind, .int .u64 r.job, .int .i64 r.n] 1 (Nat.le_refl _) (by decide) rfl
  exact Row.own ruC_len h (by omega)
theorem firLit (w : World) (f : Fi.Fire) : Fires (w.alloc (.cells #[.int .u64 f.job, .int .i64 f.at', .int .i64 f.state, .int .i64 f.att, .int .u64 f.tok, .int .u64 f.wk, .int .i64 f.til] 58)) (.slice (some ⟨w.heap.size, 0, none⟩) 1 1) [f] := by
  have h := World.ownsRow_lit (base := w.heap.size) (e := 58) (size := 7) w #[.int .u64 f.job, .int .i64 f.at', .int .i64 f.state, .int .i64 f.att, .int .u64 f.tok, .int .u64 f.wk, .int .i64 f.til] 1 (Nat.le_refl _) (by decide) rfl
  exact Row.own fireC_len h (by omega)
theorem kE1 : newE [kR] = 0 := by decide
theorem kE2 : newE [(⟨5, 0, 1⟩ : Fi.Rule)] = 2 := by decide
def kl0 : List Fi.St := [⟨kR, false, 0⟩]
def kl1 : List Fi.St := [⟨kR, true, 6⟩]
def kl2 : List Fi.St := [⟨kR, false, 8⟩]
theorem kA1 : Fi.look [kF 60 4] 5 kl0 = kl0 ∧ Fi.rings [kF 60 4] 5 0 kl0 = [] := ⟨rfl, rfl⟩
theorem kA2 : Fi.look [kF 60 4, kF 120 4] 6 kl0 = kl1 ∧ Fi.rings [kF 60 4, kF 120 4] 6 0 kl0 = [⟨0, true, 6⟩] := ⟨rfl, rfl⟩
theorem kA3 : Fi.look [kF 60 4, kF 120 4] 7 kl1 = kl1 ∧ Fi.rings [kF 60 4, kF 120 4] 7 0 kl1 = [] := ⟨rfl, rfl⟩
theorem kA4 : Fi.look [kF 60 4, kF 120 4, kF 180 3] 8 kl1 = kl2 ∧ Fi.rings [kF 60 4, kF 120 4, kF 180 3] 8 0 kl1 = [⟨0, false, 8⟩] := ⟨rfl, rfl⟩
/-- New with one good rule -/
theorem new_1 (w : World) : Calls Try.prog 17 #[.slice (some ⟨w.heap.size, 0, none⟩) 1 1] (w.alloc (.cells #[.int .u8 2, .int .u64 1, .int .i64 2] 34)) fun e w' =>
    ∃ b v, e = .returned (.tuple #[.pointer (some ⟨b, 0, none⟩), .int .i64 0]) ∧ w.heap.size ≤ b ∧ WV w' b v kl0 (-1) ∧ Below w.heap.size w w' := by
  refine (new_any [kR] _ (by decide) _ (rusLit w kR)).mono ?_
  rintro e w' (⟨h, -⟩ | ⟨-, b, v, rfl, hb, hW, hB⟩)
  · exact absurd kE1 h
  · exact ⟨b, v, rfl, by simp at hb; omega, hW, (Below.al (Below.refl _ _) _).trans (hB.mono (by simp))⟩
theorem new_2 (w : World) : Calls Try.prog 17 #[.slice (some ⟨w.heap.size, 0, none⟩) 1 1] (w.alloc (.cells #[.int .u8 5, .int .u64 0, .int .i64 1] 34)) fun e w' =>
    e = .returned (.tuple #[.pointer none, .int .i64 2]) ∧ Below w.heap.size w w' := by
  refine (new_any [⟨5, 0, 1⟩] _ (by decide) _ (rusLit w ⟨5, 0, 1⟩)).mono ?_
  rintro e w' (⟨h, rfl, hB⟩ | ⟨h, -⟩)
  · exact ⟨by rw [kE2], (Below.al (Below.refl _ _) _).trans (hB.mono (by simp))⟩
  · rw [kE2] at h; exact absurd h (by decide)
end Go.Proofs.Ytaepkmjlkenenaa
