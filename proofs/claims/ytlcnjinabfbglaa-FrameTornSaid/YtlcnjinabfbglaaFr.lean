/- Plain: frames of records, one behind the other; ck is what stands behind a text: its check, four bytes. -/
import Derived.Test.YtlcnjinabfbglaaPk3
namespace Go.Proofs.Ytlcnjinabfbglaa.Fr
open Pk
section
variable (ck : List UInt8 → List UInt8)
def frame (s : List UInt8) : List UInt8 := 90 :: (putText s ++ ck (putText s))
def first (l : List UInt8) : Option (List UInt8 × Nat) :=
  if l.head? = some 90 then
    match takeText l 1 with
    | none => none
    | some (s, j) => if j + 4 ≤ l.length ∧ (l.drop j).take 4 = ck ((l.drop 1).take (j - 1)) then some (s, j + 4) else none
  else none
/-- the records of bytes, and how many bytes are good; f records at most -/
def scanF : Nat → List UInt8 → List (List UInt8) × Nat
  | 0, _ => ([], 0)
  | f + 1, l => match first ck l with
    | none => ([], 0)
    | some (s, n) => (s :: (scanF f (l.drop n)).1, n + (scanF f (l.drop n)).2)
def frames (ss : List (List UInt8)) : List UInt8 := ss.flatMap (frame ck)
variable {ck} (hck : ∀ t, (ck t).length = 4)
include hck
theorem frame_len (s : List UInt8) : (frame ck s).length = (putText s).length + 5 := by simp [frame, hck]
theorem first_frame (s r : List UInt8) (hs : s.length ≤ 4096) : first ck (frame ck s ++ r) = some (s, (frame ck s).length) := by
  have h := takeText_put [90] (ck (putText s) ++ r) s 1 rfl hs
  have e : [90] ++ putText s ++ (ck (putText s) ++ r) = frame ck s ++ r := by simp [frame]
  rw [e] at h
  unfold first
  rw [if_pos (by simp [frame]), h]
  have hl := frame_len hck s
  have hd : (frame ck s ++ r).drop (1 + (putText s).length) = ck (putText s) ++ r := by
    rw [← e, show 1 + (putText s).length = ([90] ++ putText s).length by simp; omega, List.drop_left]
  have ht : ((frame ck s ++ r).drop 1).take (1 + (putText s).length - 1) = putText s := by
    rw [← e, show 1 + (putText s).length - 1 = (putText s).length by omega]
    simp
  simp only
  rw [hd, ht, if_pos ⟨by rw [List.length_append, hl]; omega, by rw [← hck (putText s), List.take_left]⟩, hl]
  congr 2
  omega
theorem first_some (l : List UInt8) (s : List UInt8) (n : Nat) (h : first ck l = some (s, n)) : ∃ r, l = frame ck s ++ r ∧ n = (frame ck s).length ∧ s.length ≤ 4096 := by
  unfold first at h
  split at h
  · rename_i h9
    cases ht : takeText l 1 with
    | none => rw [ht] at h; cases h
    | some p =>
      obtain ⟨s', j⟩ := p
      rw [ht] at h
      simp only at h
      split at h
      · rename_i hc
        simp only [Option.some.injEq, Prod.mk.injEq] at h
        obtain ⟨rfl, rfl⟩ := h
        obtain ⟨e1, e2, e3, -⟩ := takeText_canon l 1 j s' ht
        rw [e1] at hc
        have hj : (putText s').length = j - 1 := by
          rw [← e1, List.length_take, List.length_drop]; omega
        refine ⟨l.drop (j + 4), ?_, by rw [frame_len hck, hj]; omega, e2⟩
        cases l with
        | nil => simp at h9
        | cons x r =>
          simp at h9
          subst h9
          unfold frame
          rw [← hc.2, ← e1]
          have a1 : (90 :: r).drop 1 = r := rfl
          rw [a1]
          have a2 : (90 :: r).drop j = r.drop (j - 1) := by
            cases j with
            | zero => omega
            | succ j => rfl
          have a3 : (90 :: r).drop (j + 4) = (r.drop (j - 1)).drop 4 := by
            rw [List.drop_drop]
            cases j with
            | zero => omega
            | succ j => simp only [List.drop_succ_cons]; congr 1
          rw [a2, a3, List.cons_append, List.append_assoc, List.take_append_drop, List.take_append_drop]
      · cases h
  · cases h
/-- the same bytes begin no two frames -/
theorem frame_prefix (s s' r r' : List UInt8) (hs : s.length ≤ 4096) (hs' : s'.length ≤ 4096) (h : frame ck s ++ r = frame ck s' ++ r') : s = s' ∧ r = r' := by
  have h1 := first_frame hck s r hs
  rw [h, first_frame hck s' r' hs'] at h1
  have e := Option.some.inj h1
  have e2 : s' = s := congrArg Prod.fst e
  subst e2
  exact ⟨rfl, List.append_cancel_left h⟩
/-- cut, it is none -/
theorem first_cut (s : List UInt8) (hs : s.length ≤ 4096) (c : Nat) (hc : c < (frame ck s).length) : first ck ((frame ck s).take c) = none := by
  cases h : first ck ((frame ck s).take c) with
  | none => rfl
  | some p =>
    obtain ⟨s', n⟩ := p
    obtain ⟨r, e1, e2, e3⟩ := first_some hck _ s' n h
    have e4 : frame ck s ++ [] = frame ck s' ++ (r ++ (frame ck s).drop c) := by
      rw [List.append_nil, ← List.append_assoc, ← e1, List.take_append_drop]
    obtain ⟨rfl, hr⟩ := frame_prefix hck s s' _ _ hs e3 e4
    have hl := congrArg List.length e1
    rw [List.length_take, List.length_append] at hl
    omega
omit hck in
theorem frame_pos (s : List UInt8) : 0 < (frame ck s).length := by simp [frame]
/-- of frames, one behind the other, and what begins none: just these records -/
theorem scan_frames (t : List UInt8) (ht : first ck t = none) : ∀ (ss : List (List UInt8)) (f : Nat), (∀ s ∈ ss, s.length ≤ 4096) → ss.length < f → scanF ck f (frames ck ss ++ t) = (ss, (frames ck ss).length)
  | [], f + 1, _, _ => by
    show scanF ck (f + 1) t = _
    rw [scanF, ht]; rfl
  | s :: ss, f + 1, h, hf => by
    have e : frames ck (s :: ss) ++ t = frame ck s ++ (frames ck ss ++ t) := by simp [frames]
    have ih := scan_frames t ht ss f (fun x hx => h x (List.mem_cons_of_mem _ hx)) (by simp at hf; omega)
    rw [e, scanF, first_frame hck s _ (h s (List.mem_cons_self ..))]
    simp only
    rw [List.drop_left, ih]
    simp [frames]
end
end Go.Proofs.Ytlcnjinabfbglaa.Fr
