/- Plain: THE STAGE's THEOREM: frames, of which the last one is whole, cut, or spoilt. -/
import Derived.Test.YtlcnjinabfbglaaFr3
namespace Go.Proofs.Ytlcnjinabfbglaa.Fr
open Pk Crc
theorem first_nil : first ck4 [] = none := by simp [first]
theorem frames_snoc (L : List (List UInt8)) (s : List UInt8) : frames ck4 (L ++ [s]) = frames ck4 L ++ frame ck4 s := by simp [frames]
theorem torn_whole (L : List (List UInt8)) (last : List UInt8) (h : ∀ s ∈ L, s.length ≤ 100) (hl : last.length ≤ 100) : scan (frames ck4 L ++ frame ck4 last) = (L ++ [last], (frames ck4 L).length + (frame ck4 last).length) := by
  have := scan_of (L ++ [last]) [] first_nil (by
    intro s hs
    rcases List.mem_append.1 hs with hs | hs
    · have := h s hs; omega
    · simp at hs; subst hs; omega)
  rw [List.append_nil, frames_snoc] at this
  rw [this, List.length_append]
theorem torn_cut (L : List (List UInt8)) (last : List UInt8) (h : ∀ s ∈ L, s.length ≤ 100) (hl : last.length ≤ 100) (c : Nat) (hc : c < (frame ck4 last).length) : scan (frames ck4 L ++ (frame ck4 last).take c) = (L, (frames ck4 L).length) :=
  scan_of L _ (first_cut ck4_len last (by omega) c hc) (fun s hs => by have := h s hs; omega)
theorem torn_spoilt (L : List (List UInt8)) (last r : List UInt8) (h : ∀ s ∈ L, s.length ≤ 100) (hl : last.length ≤ 100) (at_ : Nat) (mask : BitVec 32) (hat : at_ + 32 ≤ 8 * last.length) (hm : mask ≠ 0) :
    scan (frames ck4 L ++ tb (frame ck4 last) (at_ + 16) mask 32 ++ r) = (L, (frames ck4 L).length) := by
  rw [List.append_assoc]
  exact scan_of L _ (first_spoilt last r (by omega) at_ mask hat hm) (fun s hs => by have := h s hs; omega)
theorem frame_len100 (s : List UInt8) (h : s.length ≤ 100) : (frame ck4 s).length = s.length + 6 := by
  rw [frame_form s (by omega)]
  simp [ck4_len]
theorem frames_len100 : ∀ (L : List (List UInt8)), (∀ s ∈ L, s.length ≤ 100) → (frames ck4 L).length ≤ 106 * L.length
  | [], _ => by simp [frames]
  | s :: L, h => by
    have h1 := frame_len100 s (h s (List.mem_cons_self ..))
    have h2 := h s (List.mem_cons_self ..)
    have ih := frames_len100 L (fun x hx => h x (List.mem_cons_of_mem _ hx))
    have e : frames ck4 (s :: L) = frame ck4 s ++ frames ck4 L := by simp [frames]
    rw [e, List.length_append, List.length_cons]
    omega
theorem frames_take (L : List (List UInt8)) (k : Nat) (hk : k < L.length) : frames ck4 (L.take (k + 1)) = frames ck4 (L.take k) ++ frame ck4 (L.getD k []) := by
  rw [List.take_succ_eq_append_getElem hk, frames_snoc]
  simp [hk]
end Go.Proofs.Ytlcnjinabfbglaa.Fr
