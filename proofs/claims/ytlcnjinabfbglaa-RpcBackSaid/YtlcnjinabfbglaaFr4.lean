/- Plain: THE STAGE's THEOREM: frames, of which the last one is whole, cut, or spoilt. -/
import Derived.Test.YtlcnjinabfbglaaPk4
import Derived.Test.YtlcnjinabfbglaaCrc2
import Derived.Test.YtlcnjinabfbglaaW3
namespace Go.Proofs.Ytlcnjinabfbglaa.Fr
open Pk
section
variable (ck : List UInt8 → List UInt8)
def frame (s : List UInt8) : List UInt8 := 90 :: (putText s ++ ck (putText s))
def first (l : List UInt8) : Option (List UInt8 × Nat) :=
  if l.head? = some 90 then
    match takeText l 1 with
    | none => none
    | some (s, j) => if j + 4 ≤ l.length ∧ (l.drop j).take 4 = ck ((l.drop 1).take (j - 1)) then some (s, j + 4) else none
  else none
/-- the records of bytes, and how many bytes are good; f records at most -/
def scanF : Nat → List UInt8 → List (List UInt8) × Nat
  | 0, _ => ([], 0)
  | f + 1, l => match first ck l with
    | none => ([], 0)
    | some (s, n) => (s :: (scanF f (l.drop n)).1, n + (scanF f (l.drop n)).2)
def frames (ss : List (List UInt8)) : List UInt8 := ss.flatMap (frame ck)
variable {ck} (hck : ∀ t, (ck t).length = 4)
include hck
theorem frame_len (s : List UInt8) : (frame ck s).length = (putText s).length + 5 := by simp [frame, hck]
theorem first_frame (s r : List UInt8) (hs : s.length ≤ 4096) : first ck (frame ck s ++ r) = some (s, (frame ck s).length) := by
  have h := takeText_put [90] (ck (putText s) ++ r) s 1 rfl hs
  have e : [90] ++ putText s ++ (ck (putText s) ++ r) = frame ck s ++ r := by simp [frame]
  rw [e] at h
  unfold first
  rw [if_pos (by simp [frame]), h]
  have hl := frame_len hck s
  have hd : (frame ck s ++ r).drop (1 + (putText s).length) = ck (putText s) ++ r := by
    rw [← e, show 1 + (putText s).length = ([90] ++ putText s).length by simp; omega, List.drop_left]
  have ht : ((frame ck s ++ r).drop 1).take (1 + (putText s).length - 1) = putText s := by
    rw [← e, show 1 + (putText s).length - 1 = (putText s).length by omega]
    simp
  simp only
  rw [hd, ht, if_pos ⟨by rw [List.length_append, hl]; omega, by rw [← hck (putText s), List.take_left]⟩, hl]
  congr 2
  omega
theorem first_some (l : List UInt8) (s : List UInt8) (n : Nat) (h : first ck l = some (s, n)) : ∃ r, l = frame ck s ++ r ∧ n = (frame ck s).length ∧ s.length ≤ 4096 := by
  unfold first at h
  split at h
  · rename_i h9
    cases ht : takeText l 1 with
    | none => rw [ht] at h; cases h
    | some p =>
      obtain ⟨s', j⟩ := p
      rw [ht] at h
      simp only at h
      split at h
      · rename_i hc
        simp only [Option.some.injEq, Prod.mk.injEq] at h
        obtain ⟨rfl, rfl⟩ := h
        obtain ⟨e1, e2, e3, -⟩ := takeText_canon l 1 j s' ht
        rw [e1] at hc
        have hj : (putText s').length = j - 1 := by
          rw [← e1, List.length_take, List.length_drop]; omega
        refine ⟨l.drop (j + 4), ?_, by rw [frame_len hck, hj]; omega, e2⟩
        cases l with
        | nil => simp at h9
        | cons x r =>
          simp at h9
          subst h9
          unfold frame
          rw [← hc.2, ← e1]
          have a1 : (90 :: r).drop 1 = r := rfl
          rw [a1]
          have a2 : (90 :: r).drop j = r.drop (j - 1) := by
            cases j with
            | zero => omega
            | succ j => rfl
          have a3 : (90 :: r).drop (j + 4) = (r.drop (j - 1)).drop 4 := by
            rw [List.drop_drop]
            cases j with
            | zero => omega
            | succ j => simp only [List.drop_succ_cons]; congr 1
          rw [a2, a3, List.cons_append, List.append_assoc, List.take_append_drop, List.take_append_drop]
      · cases h
  · cases h
/-- the same bytes begin no two frames -/
theorem frame_prefix (s s' r r' : List UInt8) (hs : s.length ≤ 4096) (hs' : s'.length ≤ 4096) (h : frame ck s ++ r = frame ck s' ++ r') : s = s' ∧ r = r' := by
  have h1 := first_frame hck s r hs
  rw [h, first_frame hck s' r' hs'] at h1
  have e := Option.some.inj h1
  have e2 : s' = s := congrArg Prod.fst e
  subst e2
  exact ⟨rfl, List.append_cancel_left h⟩
/-- cut, it is none -/
theorem first_cut (s : List UInt8) (hs : s.length ≤ 4096) (c : Nat) (hc : c < (frame ck s).length) : first ck ((frame ck s).take c) = none := by
  cases h : first ck ((frame ck s).take c) with
  | none => rfl
  | some p =>
    obtain ⟨s', n⟩ := p
    obtain ⟨r, e1, e2, e3⟩ := first_some hck _ s' n h
    have e4 : frame ck s ++ [] = frame ck s' ++ (r ++ (frame ck s).drop c) := by
      rw [List.append_nil, ← List.append_assoc, ← e1, List.take_append_drop]
    obtain ⟨rfl, hr⟩ := frame_prefix hck s s' _ _ hs e3 e4
    have hl := congrArg List.length e1
    rw [List.length_take, List.length_append] at hl
    omega
omit hck in
theorem frame_pos (s : List UInt8) : 0 < (frame ck s).length := by simp [frame]
/-- of frames, one behind the other, and what begins none: just these records -/
theorem scan_frames (t : List UInt8) (ht : first ck t = none) : ∀ (ss : List (List UInt8)) (f : Nat), (∀ s ∈ ss, s.length ≤ 4096) → ss.length < f → scanF ck f (frames ck ss ++ t) = (ss, (frames ck ss).length)
  | [], f + 1, _, _ => by
    show scanF ck (f + 1) t = _
    rw [scanF, ht]; rfl
  | s :: ss, f + 1, h, hf => by
    have e : frames ck (s :: ss) ++ t = frame ck s ++ (frames ck ss ++ t) := by simp [frames]
    have ih := scan_frames t ht ss f (fun x hx => h x (List.mem_cons_of_mem _ hx)) (by simp at hf; omega)
    rw [e, scanF, first_frame hck s _ (h s (List.mem_cons_self ..))]
    simp only
    rw [List.drop_left, ih]
    simp [frames]
end
end Go.Proofs.Ytlcnjinabfbglaa.Fr
namespace Go.Proofs.Ytlcnjinabfbglaa.Fr
open Pk Crc
/-- four bytes, the lowest first -/
def le4 (c : Nat) : List UInt8 := [UInt8.ofNat c, UInt8.ofNat (c / 256), UInt8.ofNat (c / 65536), UInt8.ofNat (c / 16777216)]
def ck4 (l : List UInt8) : List UInt8 := le4 (masked (Crc.on 0#32 l)).toNat
theorem ck4_len (l : List UInt8) : (ck4 l).length = 4 := rfl
theorem le4_inj (c d : Nat) (hc : c < 4294967296) (hd : d < 4294967296) (h : le4 c = le4 d) : c = d := by
  unfold le4 at h
  simp only [List.cons.injEq, and_true] at h
  obtain ⟨h0, h1, h2, h3⟩ := h
  have t : ∀ m n : Nat, UInt8.ofNat m = UInt8.ofNat n → m % 256 = n % 256 := fun m n e => by
    have := congrArg UInt8.toNat e
    rwa [UInt8.toNat_ofNat', UInt8.toNat_ofNat'] at this
  have h0 := t _ _ h0
  have h1 := t _ _ h1
  have h2 := t _ _ h2
  have h3 := t _ _ h3
  omega
theorem masked_inj (c d : BitVec 32) (h : masked c = masked d) : c = d := by
  have e := congrArg BitVec.toNat h
  unfold masked at e
  rw [BitVec.toNat_ofNat, BitVec.toNat_ofNat] at e
  have hc := c.isLt
  have hd := d.isLt
  apply BitVec.eq_of_toNat_eq
  obtain ⟨x, hx⟩ : ∃ x, x = c.toNat / 32768 + c.toNat % 32768 * 131072 := ⟨_, rfl⟩
  obtain ⟨y, hy⟩ : ∃ y, y = d.toNat / 32768 + d.toNat % 32768 * 131072 := ⟨_, rfl⟩
  rw [← hx, ← hy] at e
  have hx1 : x < 4294967296 := by omega
  have hy1 : y < 4294967296 := by omega
  have hxy : x = y := by clear hx hy; omega
  have q1 : c.toNat / 32768 = x % 131072 := by omega
  have q2 : d.toNat / 32768 = y % 131072 := by omega
  have q3 : c.toNat % 32768 = x / 131072 := by omega
  have q4 : d.toNat % 32768 = y / 131072 := by omega
  have d1 := Nat.div_add_mod c.toNat 32768
  have d2 := Nat.div_add_mod d.toNat 32768
  rw [← d1, ← d2, q1, q2, q3, q4, hxy]
theorem ck4_inj (a b : List UInt8) (h : ck4 a = ck4 b) : Crc.on 0#32 a = Crc.on 0#32 b :=
  masked_inj _ _ (BitVec.eq_of_toNat_eq (le4_inj _ _ (BitVec.isLt _) (BitVec.isLt _) h))
theorem tb_cons (x : UInt8) (l : List UInt8) (at_ : Nat) (mask : BitVec 32) (i : Nat) : tb (x :: l) (at_ + 8) mask i = x :: tb l at_ mask i := by
  induction i with
  | zero => rfl
  | succ i ih =>
    unfold tb
    rw [ih]
    have e : (at_ + 8 + i) / 8 = (at_ + i) / 8 + 1 := by omega
    have e2 : (at_ + 8 + i) % 8 = (at_ + i) % 8 := by omega
    rw [e, e2]
    split
    · simp
    · rfl
theorem tb_append (l r : List UInt8) (at_ : Nat) (mask : BitVec 32) (i : Nat) (h : at_ + i ≤ 8 * l.length) : tb (l ++ r) at_ mask i = tb l at_ mask i ++ r := by
  induction i with
  | zero => rfl
  | succ i ih =>
    unfold tb
    rw [ih (by omega)]
    have hl := tb_len l at_ mask i
    split
    · rw [List.set_append_left _ _ (by omega)]
      congr 3
      simp only [List.getD_eq_getElem?_getD]
      rw [List.getElem?_append_left (by omega)]
    · rfl
theorem put_one (n : Nat) (h : n < 128) : put n = [UInt8.ofNat n] := putF_small 9 n h
theorem frame_form (s : List UInt8) (h : s.length < 128) : frame ck4 s = 90 :: UInt8.ofNat s.length :: (s ++ ck4 (putText s)) := by
  unfold frame putText
  rw [put_one _ h]
  rfl
/-- THE STAGE's THEOREM: spoilt by bits within 32, it is none -/
theorem first_spoilt (s r : List UInt8) (hs : s.length < 128) (at_ : Nat) (mask : BitVec 32) (h : at_ + 32 ≤ 8 * s.length) (hm : mask ≠ 0) : first ck4 (tb (frame ck4 s) (at_ + 16) mask 32 ++ r) = none := by
  have e : tb (frame ck4 s) (at_ + 16) mask 32 = [90] ++ putText (tb s at_ mask 32) ++ ck4 (putText s) := by
    rw [frame_form s hs, show at_ + 16 = at_ + 8 + 8 by omega, tb_cons, tb_cons, tb_append _ _ _ _ _ h]
    unfold putText
    rw [tb_len, put_one _ hs]
    rfl
  have hl : (tb s at_ mask 32).length = s.length := tb_len _ _ _ _
  have ht := takeText_put [90] (ck4 (putText s) ++ r) (tb s at_ mask 32) 1 rfl (by omega)
  rw [← List.append_assoc, ← e] at ht
  cases hf : first ck4 (tb (frame ck4 s) (at_ + 16) mask 32 ++ r) with
  | none => rfl
  | some p =>
    exfalso
    obtain ⟨s', n⟩ := p
    obtain ⟨r', e1, e2, e3⟩ := first_some ck4_len _ _ _ hf
    have e4 := first_frame ck4_len s' r' e3
    have t2 : takeText (frame ck4 s' ++ r') 1 = some (s', 1 + (putText s').length) := by
      have := takeText_put [90] (ck4 (putText s') ++ r') s' 1 rfl e3
      rw [show [90] ++ putText s' ++ (ck4 (putText s') ++ r') = frame ck4 s' ++ r' by simp [frame]] at this
      exact this
    rw [e1, t2] at ht
    have hs' : s' = tb s at_ mask 32 := by simpa using congrArg (fun o => (o.getD default).1) ht
    rw [hs', e] at e1
    unfold frame at e1
    have e5 : ck4 (putText s) ++ r = ck4 (putText (tb s at_ mask 32)) ++ r' := by
      have : putText (tb s at_ mask 32) ++ (ck4 (putText s) ++ r) = putText (tb s at_ mask 32) ++ (ck4 (putText (tb s at_ mask 32)) ++ r') := by simpa using e1
      exact List.append_cancel_left this
    have e6 := ck4_inj _ _ (List.append_inj_left e5 (by rw [ck4_len, ck4_len]))
    have e7 : putText (tb s at_ mask 32) = tb (putText s) (at_ + 8) mask 32 := by
      unfold putText
      rw [hl, put_one _ hs]
      exact (tb_cons _ _ _ _ _).symm
    rw [e7] at e6
    exact hm ((tells (putText s) (at_ + 8) mask (by unfold putText; rw [put_one _ hs]; simp; omega)).1 e6)
/-- all records of bytes, and how many bytes are good -/
def scan (l : List UInt8) : List (List UInt8) × Nat := scanF ck4 (l.length + 1) l
theorem frames_len (ss : List (List UInt8)) : ss.length ≤ (frames ck4 ss).length := by
  induction ss with
  | nil => simp
  | cons s ss ih =>
    have := frame_pos (ck := ck4) s
    simp only [frames, List.flatMap_cons, List.length_append, List.length_cons] at ih ⊢
    omega
theorem scan_of (ss : List (List UInt8)) (t : List UInt8) (ht : first ck4 t = none) (h : ∀ s ∈ ss, s.length ≤ 4096) : scan (frames ck4 ss ++ t) = (ss, (frames ck4 ss).length) :=
  scan_frames ck4_len t ht ss _ h (by have := frames_len ss; rw [List.length_append]; omega)
end Go.Proofs.Ytlcnjinabfbglaa.Fr
namespace Go.Proofs.Ytlcnjinabfbglaa.Fr
open Pk Crc
/-- where record number k begins -/
def pos (l : List UInt8) : Nat → Nat
  | 0 => 0
  | k + 1 => pos l k + match first ck4 (l.drop (pos l k)) with
    | some (_, n) => n
    | none => 0
theorem pos_shift (l : List UInt8) (s : List UInt8) (n : Nat) (h : first ck4 l = some (s, n)) : ∀ k, pos l (k + 1) = n + pos (l.drop n) k
  | 0 => by
    show pos l 0 + (match first ck4 (l.drop (pos l 0)) with | some (_, n) => n | none => 0) = n + 0
    have : l.drop (pos l 0) = l := rfl
    rw [this, h]
    show 0 + n = n + 0
    omega
  | k + 1 => by
    have ih := pos_shift l s n h k
    show pos l (k + 1) + (match first ck4 (l.drop (pos l (k + 1))) with | some (_, n) => n | none => 0) = n + (pos (l.drop n) k + match first ck4 ((l.drop n).drop (pos (l.drop n) k)) with | some (_, n) => n | none => 0)
    rw [ih, List.drop_drop]
    omega
theorem first_le (l s : List UInt8) (n : Nat) (h : first ck4 l = some (s, n)) : 0 < n ∧ n ≤ l.length ∧ s.length ≤ 4096 ∧ s.length ≤ n := by
  obtain ⟨r, e1, e2, e3⟩ := first_some ck4_len l s n h
  have h1 := frame_pos (ck := ck4) s
  have h2 := congrArg List.length e1
  have h3 := frame_len ck4_len s
  have h4 : (putText s).length = (put s.length).length + s.length := by simp [putText]
  rw [List.length_append] at h2
  omega
theorem scanF_pos : ∀ (f : Nat) (l : List UInt8), l.length < f →
    (∀ k, k < (scanF ck4 f l).1.length → ∃ s n, first ck4 (l.drop (pos l k)) = some (s, n) ∧ (scanF ck4 f l).1[k]? = some s ∧ pos l (k + 1) = pos l k + n ∧ 0 < n ∧ pos l (k + 1) ≤ l.length) ∧
    first ck4 (l.drop (pos l (scanF ck4 f l).1.length)) = none ∧ (scanF ck4 f l).2 = pos l (scanF ck4 f l).1.length
  | f + 1, l, hf => by
    cases h : first ck4 l with
    | none =>
      rw [scanF, h]
      exact ⟨fun k hk => by simp at hk, h, rfl⟩
    | some p =>
      obtain ⟨s, n⟩ := p
      have hn := first_le l s n h
      obtain ⟨i1, i2, i3⟩ := scanF_pos f (l.drop n) (by rw [List.length_drop]; omega)
      have hs := pos_shift l s n h
      rw [scanF, h]
      simp only
      refine ⟨fun k hk => ?_, ?_, ?_⟩
      · cases k with
        | zero =>
          refine ⟨s, n, h, rfl, ?_, hn.1, ?_⟩
          · have := hs 0
            show pos l 1 = 0 + n
            rw [this]; show n + 0 = 0 + n; omega
          · have := hs 0
            show pos l 1 ≤ _
            rw [this]; show n + 0 ≤ _; omega
        | succ k =>
          obtain ⟨s', n', a1, a2, a3, a4, a5⟩ := i1 k (by simpa using hk)
          rw [List.drop_drop] at a1
          rw [List.length_drop] at a5
          refine ⟨s', n', by rw [hs k]; exact a1, by simpa using a2, by rw [hs (k + 1), hs k, a3]; omega, a4, by rw [hs (k + 1)]; omega⟩
      · rw [List.length_cons, hs]
        rw [List.drop_drop] at i2
        exact i2
      · rw [List.length_cons, hs, i3]
theorem scan_at (l : List UInt8) (k : Nat) (hk : k < (scan l).1.length) : ∃ s n, first ck4 (l.drop (pos l k)) = some (s, n) ∧ (scan l).1[k]? = some s ∧ pos l (k + 1) = pos l k + n ∧ 0 < n ∧ pos l (k + 1) ≤ l.length :=
  (scanF_pos _ l (Nat.lt_succ_self _)).1 k hk
theorem scan_end (l : List UInt8) : first ck4 (l.drop (pos l (scan l).1.length)) = none := (scanF_pos _ l (Nat.lt_succ_self _)).2.1
theorem scan_good (l : List UInt8) : (scan l).2 = pos l (scan l).1.length := (scanF_pos _ l (Nat.lt_succ_self _)).2.2
theorem pos_le (l : List UInt8) : ∀ k, k ≤ (scan l).1.length → pos l k ≤ l.length ∧ k ≤ pos l k
  | 0, _ => ⟨Nat.zero_le _, Nat.zero_le _⟩
  | k + 1, hk => by
    obtain ⟨s, n, a1, a2, a3, a4, a5⟩ := scan_at l k (by omega)
    have := pos_le l k (by omega)
    exact ⟨a5, by omega⟩
end Go.Proofs.Ytlcnjinabfbglaa.Fr
namespace Go.Proofs.Ytlcnjinabfbglaa.Fr
open Pk Crc
theorem first_nil : first ck4 [] = none := by simp [first]
theorem frames_snoc (L : List (List UInt8)) (s : List UInt8) : frames ck4 (L ++ [s]) = frames ck4 L ++ frame ck4 s := by simp [frames]
theorem torn_whole (L : List (List UInt8)) (last : List UInt8) (h : ∀ s ∈ L, s.length ≤ 100) (hl : last.length ≤ 100) : scan (frames ck4 L ++ frame ck4 last) = (L ++ [last], (frames ck4 L).length + (frame ck4 last).length) := by
  have := scan_of (L ++ [last]) [] first_nil (by
    intro s hs
    rcases List.mem_append.1 hs with hs | hs
    · have := h s hs; omega
    · simp at hs; subst hs; omega)
  rw [List.append_nil, frames_snoc] at this
  rw [this, List.length_append]
theorem torn_cut (L : List (List UInt8)) (last : List UInt8) (h : ∀ s ∈ L, s.length ≤ 100) (hl : last.length ≤ 100) (c : Nat) (hc : c < (frame ck4 last).length) : scan (frames ck4 L ++ (frame ck4 last).take c) = (L, (frames ck4 L).length) :=
  scan_of L _ (first_cut ck4_len last (by omega) c hc) (fun s hs => by have := h s hs; omega)
theorem torn_spoilt (L : List (List UInt8)) (last r : List UInt8) (h : ∀ s ∈ L, s.length ≤ 100) (hl : last.length ≤ 100) (at_ : Nat) (mask : BitVec 32) (hat : at_ + 32 ≤ 8 * last.length) (hm : mask ≠ 0) :
    scan (frames ck4 L ++ tb (frame ck4 last) (at_ + 16) mask 32 ++ r) = (L, (frames ck4 L).length) := by
  rw [List.append_assoc]
  exact scan_of L _ (first_spoilt last r (by omega) at_ mask hat hm) (fun s hs => by have := h s hs; omega)
theorem frame_len100 (s : List UInt8) (h : s.length ≤ 100) : (frame ck4 s).length = s.length + 6 := by
  rw [frame_form s (by omega)]
  simp [ck4_len]
theorem frames_len100 : ∀ (L : List (List UInt8)), (∀ s ∈ L, s.length ≤ 100) → (frames ck4 L).length ≤ 106 * L.length
  | [], _ => by simp [frames]
  | s :: L, h => by
    have h1 := frame_len100 s (h s (List.mem_cons_self ..))
    have h2 := h s (List.mem_cons_self ..)
    have ih := frames_len100 L (fun x hx => h x (List.mem_cons_of_mem _ hx))
    have e : frames ck4 (s :: L) = frame ck4 s ++ frames ck4 L := by simp [frames]
    rw [e, List.length_append, List.length_cons]
    omega
theorem frames_take (L : List (List UInt8)) (k : Nat) (hk : k < L.length) : frames ck4 (L.take (k + 1)) = frames ck4 (L.take k) ++ frame ck4 (L.getD k []) := by
  rw [List.take_succ_eq_append_getElem hk, frames_snoc]
  simp [hk]
end Go.Proofs.Ytlcnjinabfbglaa.Fr
