/- Plain: the four bytes of a masked check; a frame whose text is spoilt by bits within 32 is none. -/
import Derived.Test.YtlcnjinabfbglaaFr
import Derived.Test.YtlcnjinabfbglaaCrc2
import Derived.Test.YtlcnjinabfbglaaW3
namespace Go.Proofs.Ytlcnjinabfbglaa.Fr
open Pk Crc
/-- four bytes, the lowest first -/
def le4 (c : Nat) : List UInt8 := [UInt8.ofNat c, UInt8.ofNat (c / 256), UInt8.ofNat (c / 65536), UInt8.ofNat (c / 16777216)]
def ck4 (l : List UInt8) : List UInt8 := le4 (masked (Crc.on 0#32 l)).toNat
theorem ck4_len (l : List UInt8) : (ck4 l).length = 4 := rfl
theorem le4_inj (c d : Nat) (hc : c < 4294967296) (hd : d < 4294967296) (h : le4 c = le4 d) : c = d := by
  unfold le4 at h
  simp only [List.cons.injEq, and_true] at h
  obtain ⟨h0, h1, h2, h3⟩ := h
  have t : ∀ m n : Nat, UInt8.ofNat m = UInt8.ofNat n → m % 256 = n % 256 := fun m n e => by
    have := congrArg UInt8.toNat e
    rwa [UInt8.toNat_ofNat', UInt8.toNat_ofNat'] at this
  have h0 := t _ _ h0
  have h1 := t _ _ h1
  have h2 := t _ _ h2
  have h3 := t _ _ h3
  omega
theorem masked_inj (c d : BitVec 32) (h : masked c = masked d) : c = d := by
  have e := congrArg BitVec.toNat h
  unfold masked at e
  rw [BitVec.toNat_ofNat, BitVec.toNat_ofNat] at e
  have hc := c.isLt
  have hd := d.isLt
  apply BitVec.eq_of_toNat_eq
  obtain ⟨x, hx⟩ : ∃ x, x = c.toNat / 32768 + c.toNat % 32768 * 131072 := ⟨_, rfl⟩
  obtain ⟨y, hy⟩ : ∃ y, y = d.toNat / 32768 + d.toNat % 32768 * 131072 := ⟨_, rfl⟩
  rw [← hx, ← hy] at e
  have hx1 : x < 4294967296 := by omega
  have hy1 : y < 4294967296 := by omega
  have hxy : x = y := by clear hx hy; omega
  have q1 : c.toNat / 32768 = x % 131072 := by omega
  have q2 : d.toNat / 32768 = y % 131072 := by omega
  have q3 : c.toNat % 32768 = x / 131072 := by omega
  have q4 : d.toNat % 32768 = y / 131072 := by omega
  have d1 := Nat.div_add_mod c.toNat 32768
  have d2 := Nat.div_add_mod d.toNat 32768
  rw [← d1, ← d2, q1, q2, q3, q4, hxy]
theorem ck4_inj (a b : List UInt8) (h : ck4 a = ck4 b) : Crc.on 0#32 a = Crc.on 0#32 b :=
  masked_inj _ _ (BitVec.eq_of_toNat_eq (le4_inj _ _ (BitVec.isLt _) (BitVec.isLt _) h))
theorem tb_cons (x : UInt8) (l : List UInt8) (at_ : Nat) (mask : BitVec 32) (i : Nat) : tb (x :: l) (at_ + 8) mask i = x :: tb l at_ mask i := by
  induction i with
  | zero => rfl
  | succ i ih =>
    unfold tb
    rw [ih]
    have e : (at_ + 8 + i) / 8 = (at_ + i) / 8 + 1 := by omega
    have e2 : (at_ + 8 + i) % 8 = (at_ + i) % 8 := by omega
    rw [e, e2]
    split
    · simp
    · rfl
theorem tb_append (l r : List UInt8) (at_ : Nat) (mask : BitVec 32) (i : Nat) (h : at_ + i ≤ 8 * l.length) : tb (l ++ r) at_ mask i = tb l at_ mask i ++ r := by
  induction i with
  | zero => rfl
  | succ i ih =>
    unfold tb
    rw [ih (by omega)]
    have hl := tb_len l at_ mask i
    split
    · rw [List.set_append_left _ _ (by omega)]
      congr 3
      simp only [List.getD_eq_getElem?_getD]
      rw [List.getElem?_append_left (by omega)]
    · rfl
theorem put_one (n : Nat) (h : n < 128) : put n = [UInt8.ofNat n] := putF_small 9 n h
theorem frame_form (s : List UInt8) (h : s.length < 128) : frame ck4 s = 90 :: UInt8.ofNat s.length :: (s ++ ck4 (putText s)) := by
  unfold frame putText
  rw [put_one _ h]
  rfl
/-- THE STAGE's THEOREM: spoilt by bits within 32, it is none -/
theorem first_spoilt (s r : List UInt8) (hs : s.length < 128) (at_ : Nat) (mask : BitVec 32) (h : at_ + 32 ≤ 8 * s.length) (hm : mask ≠ 0) : first ck4 (tb (frame ck4 s) (at_ + 16) mask 32 ++ r) = none := by
  have e : tb (frame ck4 s) (at_ + 16) mask 32 = [90] ++ putText (tb s at_ mask 32) ++ ck4 (putText s) := by
    rw [frame_form s hs, show at_ + 16 = at_ + 8 + 8 by omega, tb_cons, tb_cons, tb_append _ _ _ _ _ h]
    unfold putText
    rw [tb_len, put_one _ hs]
    rfl
  have hl : (tb s at_ mask 32).length = s.length := tb_len _ _ _ _
  have ht := takeText_put [90] (ck4 (putText s) ++ r) (tb s at_ mask 32) 1 rfl (by omega)
  rw [← List.append_assoc, ← e] at ht
  cases hf : first ck4 (tb (frame ck4 s) (at_ + 16) mask 32 ++ r) with
  | none => rfl
  | some p =>
    exfalso
    obtain ⟨s', n⟩ := p
    obtain ⟨r', e1, e2, e3⟩ := first_some ck4_len _ _ _ hf
    have e4 := first_frame ck4_len s' r' e3
    have t2 : takeText (frame ck4 s' ++ r') 1 = some (s', 1 + (putText s').length) := by
      have := takeText_put [90] (ck4 (putText s') ++ r') s' 1 rfl e3
      rw [show [90] ++ putText s' ++ (ck4 (putText s') ++ r') = frame ck4 s' ++ r' by simp [frame]] at this
      exact this
    rw [e1, t2] at ht
    have hs' : s' = tb s at_ mask 32 := by simpa using congrArg (fun o => (o.getD default).1) ht
    rw [hs', e] at e1
    unfold frame at e1
    have e5 : ck4 (putText s) ++ r = ck4 (putText (tb s at_ mask 32)) ++ r' := by
      have : putText (tb s at_ mask 32) ++ (ck4 (putText s) ++ r) = putText (tb s at_ mask 32) ++ (ck4 (putText (tb s at_ mask 32)) ++ r') := by simpa using e1
      exact List.append_cancel_left this
    have e6 := ck4_inj _ _ (List.append_inj_left e5 (by rw [ck4_len, ck4_len]))
    have e7 : putText (tb s at_ mask 32) = tb (putText s) (at_ + 8) mask 32 := by
      unfold putText
      rw [hl, put_one _ hs]
      exact (tb_cons _ _ _ _ _).symm
    rw [e7] at e6
    exact hm ((tells (putText s) (at_ + 8) mask (by unfold putText; rw [put_one _ hs]; simp; omega)).1 e6)
/-- all records of bytes, and how many bytes are good -/
def scan (l : List UInt8) : List (List UInt8) × Nat := scanF ck4 (l.length + 1) l
theorem frames_len (ss : List (List UInt8)) : ss.length ≤ (frames ck4 ss).length := by
  induction ss with
  | nil => simp
  | cons s ss ih =>
    have := frame_pos (ck := ck4) s
    simp only [frames, List.flatMap_cons, List.length_append, List.length_cons] at ih ⊢
    omega
theorem scan_of (ss : List (List UInt8)) (t : List UInt8) (ht : first ck4 t = none) (h : ∀ s ∈ ss, s.length ≤ 4096) : scan (frames ck4 ss ++ t) = (ss, (frames ck4 ss).length) :=
  scan_frames ck4_len t ht ss _ h (by have := frames_len ss; rw [List.length_append]; omega)
end Go.Proofs.Ytlcnjinabfbglaa.Fr
