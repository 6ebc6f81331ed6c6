/- Plain: a number is its bytes' sum; it is taken just if its bytes are what Put says of it. -/
import Derived.Test.YtlcnjinabfbglaaPk3
namespace Go.Proofs.Ytlcnjinabfbglaa.Pk
def val : List UInt8 → Nat
  | [] => 0
  | x :: r => x.toNat % 128 + 128 * val r
theorem val_snoc : ∀ (l : List UInt8) (x : UInt8), val (l ++ [x]) = val l + 128 ^ l.length * (x.toNat % 128)
  | [], x => by simp [val]
  | y :: l, x => by
    rw [List.cons_append, val, val, val_snoc l x, List.length_cons, Nat.pow_succ, Nat.mul_add, Nat.add_assoc]
    congr 2
    rw [← Nat.mul_assoc, Nat.mul_comm 128 (128 ^ l.length)]
theorem putF_shape : ∀ (f n : Nat), n < 128 ^ (f + 1) → ∃ pre y, putF (f + 1) n = pre ++ [y] ∧ (∀ x ∈ pre, 128 ≤ x.toNat) ∧ y.toNat < 128 ∧ val (pre ++ [y]) = n
  | f, n, h => by
    by_cases h1 : n < 128
    · refine ⟨[], UInt8.ofNat n, putF_small f n h1, by simp, ?_, ?_⟩
      · rw [UInt8.toNat_ofNat']; omega
      · simp only [List.nil_append, val, UInt8.toNat_ofNat']; omega
    · match f, h with
      | 0, h => omega
      | f + 1, h =>
        have hp : n / 128 < 128 ^ (f + 1) := by
          rw [Nat.pow_succ] at h
          omega
        obtain ⟨pre, y, e1, e2, e3, e4⟩ := putF_shape f (n / 128) hp
        have hb : (UInt8.ofNat (n % 128 + 128)).toNat = n % 128 + 128 := by rw [UInt8.toNat_ofNat']; omega
        refine ⟨UInt8.ofNat (n % 128 + 128) :: pre, y, by rw [putF_big _ _ (by omega), e1]; rfl, ?_, e3, ?_⟩
        · intro x hx
          rcases List.mem_cons.1 hx with rfl | hx
          · omega
          · exact e2 x hx
        · rw [List.cons_append, val, e4, hb]; omega
theorem put_shape (n : Nat) (h : n < 18446744073709551616) : ∃ pre y, put n = pre ++ [y] ∧ (∀ x ∈ pre, 128 ≤ x.toNat) ∧ y.toNat < 128 ∧ val (pre ++ [y]) = n :=
  putF_shape 9 n (Nat.lt_trans h (by decide))
/-- what is taken: where it ends, and its bytes' sum -/
theorem take_shape (l : List UInt8) (at_ v j : Nat) (hat : at_ ≤ l.length) (h : take l at_ = some (v, j)) :
    ∃ k, j = at_ + (k + 1) ∧ k < 10 ∧ k < (l.drop at_).length ∧ (∀ i, i < k → 128 ≤ ((l.drop at_).getD i 0).toNat) ∧ ((l.drop at_).getD k 0).toNat < 128 ∧ val ((l.drop at_).take (k + 1)) = v ∧ put v = (l.drop at_).take (k + 1) ∧ v < 18446744073709551616 := by
  obtain ⟨e1, e2, e3⟩ := take_canon l at_ v j h
  have e4 := (take_le l at_ v j h hat).2
  obtain ⟨pre, y, f1, f2, f3, f4⟩ := put_shape v e2
  have hpl := put_len v
  have hl := congrArg List.length e1
  rw [List.length_take, List.length_drop, f1, List.length_append, List.length_singleton] at hl
  rw [f1, List.length_append, List.length_singleton] at hpl
  have hd : (l.drop at_).length = l.length - at_ := List.length_drop ..
  have hjk : j - at_ = pre.length + 1 := by omega
  rw [hjk] at e1
  have hg : ∀ i, i < pre.length + 1 → (l.drop at_).getD i 0 = (pre ++ [y]).getD i 0 := fun i hi => by
    rw [← f1, ← e1]
    simp only [List.getD_eq_getElem?_getD]
    rw [List.getElem?_take, if_pos hi]
  refine ⟨pre.length, by omega, by omega, by omega, fun i hi => ?_, ?_, by rw [e1, f1, f4], by rw [e1], e2⟩
  · rw [hg i (by omega)]
    have : (pre ++ [y]).getD i 0 = pre[i] := by simp [List.getD_eq_getElem?_getD, List.getElem?_append_left hi, hi]
    rw [this]
    exact f2 _ (List.getElem_mem hi)
  · rw [hg _ (by omega)]
    have : (pre ++ [y]).getD pre.length 0 = y := by simp [List.getD_eq_getElem?_getD]
    rw [this]
    exact f3
theorem take_of (l : List UInt8) (at_ v k : Nat) (hat : at_ ≤ l.length) (hk : k < (l.drop at_).length) (hv : v < 18446744073709551616) (h : put v = (l.drop at_).take (k + 1)) : take l at_ = some (v, at_ + (k + 1)) := by
  have hl := congrArg List.length h
  rw [List.length_take] at hl
  have e : l = l.take at_ ++ put v ++ (l.drop at_).drop (k + 1) := by
    rw [h, List.append_assoc, List.take_append_drop, List.take_append_drop]
  have := take_put (l.take at_) ((l.drop at_).drop (k + 1)) v hv at_ (by rw [List.length_take]; omega)
  rw [← e] at this
  rw [this, hl, Nat.min_eq_left (by omega)]
theorem take_end (l : List UInt8) (at_ k v : Nat) (hat : at_ ≤ l.length) (hk : k < (l.drop at_).length) (hbig : ∀ i, i < k → 128 ≤ ((l.drop at_).getD i 0).toNat) (hx : ((l.drop at_).getD k 0).toNat < 128)
    (hv : v = val ((l.drop at_).take (k + 1)) % 18446744073709551616) : take l at_ = if put v = (l.drop at_).take (k + 1) then some (v, at_ + (k + 1)) else none := by
  by_cases h : put v = (l.drop at_).take (k + 1)
  · rw [if_pos h]
    exact take_of l at_ v k hat hk (by omega) h
  · rw [if_neg h]
    cases ht : take l at_ with
    | none => rfl
    | some p =>
      exfalso
      obtain ⟨v', j⟩ := p
      obtain ⟨k', e1, e2, e3, e4, e5, e6, e7, e8⟩ := take_shape l at_ v' j hat ht
      have hkk : k' = k := by
        rcases Nat.lt_trichotomy k' k with hh | hh | hh
        · have := hbig k' hh; omega
        · exact hh
        · have := e4 k hh; omega
      subst hkk
      apply h
      rw [hv, e6, Nat.mod_eq_of_lt e8]
      exact e7
theorem take_never (l : List UInt8) (at_ k : Nat) (hat : at_ ≤ l.length) (hk : 10 ≤ k ∨ (l.drop at_).length ≤ k) (hbig : ∀ i, i < k → 128 ≤ ((l.drop at_).getD i 0).toNat) : take l at_ = none := by
  cases ht : take l at_ with
  | none => rfl
  | some p =>
    exfalso
    obtain ⟨v', j⟩ := p
    obtain ⟨k', e1, e2, e3, e4, e5, e6, e7, e8⟩ := take_shape l at_ v' j hat ht
    have := hbig k' (by omega)
    omega
theorem val_next (d : List UInt8) (k n w : Nat) (x : UInt8) (hk : k < d.length) (hx : x = d.getD k 0) (hn : n = val (d.take k) % 18446744073709551616) (hw : w = 128 ^ k % 18446744073709551616) :
    (n + x.toNat % 128 * w % 18446744073709551616) % 18446744073709551616 = val (d.take (k + 1)) % 18446744073709551616 ∧ w * 128 % 18446744073709551616 = 128 ^ (k + 1) % 18446744073709551616 := by
  have e : d.take (k + 1) = d.take k ++ [x] := by
    rw [List.take_succ_eq_append_getElem hk, hx]; simp [hk]
  rw [e, val_snoc, List.length_take, Nat.min_eq_left (by omega), Nat.pow_succ, hn, hw]
  generalize val (d.take k) = a
  generalize 128 ^ k = b
  constructor
  · rw [Nat.mul_comm b]
    simp [Nat.add_mod, Nat.mul_mod]
  · simp [Nat.mul_mod]
end Go.Proofs.Ytlcnjinabfbglaa.Pk
