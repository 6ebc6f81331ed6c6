/- Plain: a number is its bytes' sum; it is taken just if its bytes are what Put says of it. -/
/- Plain: numbers as bytes, seven bits a byte, the lowest first. -/
namespace Go.Proofs.Ytlcnjinabfbglaa.Pk
/-- n as bytes, f bytes at most -/
def putF : Nat → Nat → List UInt8
  | 0, _ => []
  | f + 1, n => if n < 128 then [UInt8.ofNat n] else UInt8.ofNat (n % 128 + 128) :: putF f (n / 128)
def put (n : Nat) : List UInt8 := putF 10 n
/-- whole numbers: by turns -/
def zig (m : Int) : Nat := if 0 ≤ m then (2 * m).toNat else (-2 * m - 1).toNat
theorem putF_small (f n : Nat) (h : n < 128) : putF (f + 1) n = [UInt8.ofNat n] := by simp [putF, h]
theorem putF_big (f n : Nat) (h : 128 ≤ n) : putF (f + 1) n = UInt8.ofNat (n % 128 + 128) :: putF f (n / 128) := by
  simp [putF, show ¬ n < 128 by omega]
theorem putF_len (f : Nat) : ∀ n, (putF f n).length ≤ f := by
  induction f with
  | zero => intro n; simp [putF]
  | succ f ih =>
    intro n
    unfold putF
    split
    · simp
    · have := ih (n / 128); simp; omega
theorem put_len (n : Nat) : (put n).length ≤ 10 := putF_len 10 n
theorem putF_pos (f n : Nat) : 0 < (putF (f + 1) n).length := by
  unfold putF; split <;> simp
theorem zig_lt (m : Int) (h1 : -9223372036854775808 ≤ m) (h2 : m ≤ 9223372036854775807) : zig m < 18446744073709551616 := by
  unfold zig; split <;> omega
/-- a text as bytes -/
def putText (s : List UInt8) : List UInt8 := put s.length ++ s
/-- bytes as a number: what is left, how many bytes are done, what they are -/
def tkF : List UInt8 → Nat → Nat → Option (Nat × Nat)
  | [], _, _ => none
  | x :: r, i, n => if (i = 9 ∧ 1 < x.toNat) ∨ (0 < i ∧ x.toNat = 0) then none
    else if x.toNat < 128 then some (n + x.toNat % 128 * 2 ^ (7 * i), i + 1) else tkF r (i + 1) (n + x.toNat % 128 * 2 ^ (7 * i))
/-- the number at a place, and the place behind it -/
def take (l : List UInt8) (at_ : Nat) : Option (Nat × Nat) := (tkF (l.drop at_) 0 0).map fun p => (p.1, at_ + p.2)
end Go.Proofs.Ytlcnjinabfbglaa.Pk
namespace Go.Proofs.Ytlcnjinabfbglaa.Pk
theorem pow_lt_two (i m : Nat) (h9 : i ≤ 9) (hm : m < 2 ^ (64 - 7 * i)) (hi : i = 9) : m < 2 := by subst hi; simpa using hm
/-- what was put is taken, whatever stands behind -/
theorem tk_put (r : List UInt8) (f : Nat) : ∀ i n m, f + i = 9 → m < 2 ^ (64 - 7 * i) → (0 < i → 0 < m) →
    tkF (putF (f + 1) m ++ r) i n = some (n + m * 2 ^ (7 * i), i + (putF (f + 1) m).length) := by
  induction f with
  | zero =>
    intro i n m hf hm hp
    have hi : i = 9 := by omega
    subst hi
    have hm2 : m < 2 := by simpa using hm
    have hp' := hp (by omega)
    rw [putF_small 0 m (by omega)]
    have hx : (UInt8.ofNat m).toNat = m := by rw [UInt8.toNat_ofNat']; omega
    simp only [List.cons_append, List.nil_append, tkF, hx]
    rw [if_neg (by omega), if_pos (by omega), Nat.mod_eq_of_lt (by omega)]
    simp
  | succ f ih =>
    intro i n m hf hm hp
    by_cases h : m < 128
    · rw [putF_small _ m h]
      have hx : (UInt8.ofNat m).toNat = m := by rw [UInt8.toNat_ofNat']; omega
      simp only [List.cons_append, List.nil_append, tkF, hx]
      rw [if_neg (by omega), if_pos (by omega), Nat.mod_eq_of_lt h]
      simp
    · have hx : (UInt8.ofNat (m % 128 + 128)).toNat = m % 128 + 128 := by rw [UInt8.toNat_ofNat']; omega
      rw [putF_big _ m (by omega), List.cons_append, tkF, hx, if_neg (by omega), if_neg (by omega)]
      have hm2 : m / 128 < 2 ^ (64 - 7 * (i + 1)) := by
        rw [show 64 - 7 * i = (64 - 7 * (i + 1)) + 7 from by omega, Nat.pow_add] at hm
        exact Nat.div_lt_of_lt_mul (by rw [Nat.mul_comm]; exact hm)
      rw [ih (i + 1) _ (m / 128) (by omega) hm2 (by omega), List.length_cons]
      congr 2
      · rw [show 7 * (i + 1) = 7 * i + 7 from by omega, Nat.pow_add]
        have e1 : (m % 128 + 128) % 128 = m % 128 := by omega
        rw [e1]
        have e2 : m / 128 * (2 ^ (7 * i) * 2 ^ 7) = (m / 128 * 128) * 2 ^ (7 * i) := by
          rw [Nat.mul_comm (2 ^ (7 * i)) (2 ^ 7), ← Nat.mul_assoc]
        rw [e2, Nat.add_assoc, ← Nat.add_mul]
        congr 2
        omega
      · omega
theorem tk_pos : ∀ (l : List UInt8) (i n v j : Nat), tkF l i n = some (v, j) → i < j ∧ j ≤ i + l.length := by
  intro l
  induction l with
  | nil => intro i n v j h; simp [tkF] at h
  | cons x r ih =>
    intro i n v j h
    rw [tkF] at h
    split at h
    · cases h
    · split at h
      · simp only [Option.some.injEq, Prod.mk.injEq] at h
        simp; omega
      · have := ih _ _ _ _ h
        simp; omega
/-- cut: the same, or none -/
theorem tk_cut : ∀ (l : List UInt8) (i n v j c : Nat), tkF l i n = some (v, j) → tkF (l.take c) i n = if j ≤ i + c then some (v, j) else none := by
  intro l
  induction l with
  | nil => intro i n v j c h; simp [tkF] at h
  | cons x r ih =>
    intro i n v j c h
    have hp := tk_pos _ _ _ _ _ h
    cases c with
    | zero => rw [List.take_zero, if_neg (by omega)]; rfl
    | succ c =>
      rw [List.take_succ_cons]
      rw [tkF] at h ⊢
      split at h
      · cases h
      · rename_i h1
        rw [if_neg h1]
        split at h
        · rename_i h2
          rw [if_pos h2]
          simp only [Option.some.injEq, Prod.mk.injEq] at h
          rw [if_pos (by omega), h.1, h.2]
        · rename_i h2
          rw [if_neg h2, ih _ _ _ _ c h]
          by_cases hj : j ≤ i + (c + 1)
          · rw [if_pos hj, if_pos (by omega)]
          · rw [if_neg hj, if_neg (by omega)]
theorem take_put (a r : List UInt8) (n : Nat) (hn : n < 18446744073709551616) (at_ : Nat) (ha : at_ = a.length) : take (a ++ put n ++ r) at_ = some (n, at_ + (put n).length) := by
  subst ha
  unfold take put
  rw [List.append_assoc, List.drop_left, tk_put r 9 0 0 n rfl (by simpa using hn) (by omega)]
  simp
theorem take_cut (l : List UInt8) (at_ v j c : Nat) (h : take l at_ = some (v, j)) (hc : at_ ≤ c) : take (l.take c) at_ = if j ≤ c then some (v, j) else none := by
  unfold take at h ⊢
  rw [List.drop_take]
  obtain ⟨⟨v', j'⟩, h1, h2⟩ := Option.map_eq_some_iff.1 h
  simp only [Prod.mk.injEq] at h2
  rw [tk_cut _ _ _ _ _ (c - at_) h1]
  by_cases hj : j ≤ c
  · rw [if_pos (by omega), if_pos hj, Option.map_some, h2.1, h2.2]
  · rw [if_neg (by omega), if_neg hj]; rfl
theorem take_le (l : List UInt8) (at_ v j : Nat) (h : take l at_ = some (v, j)) (hat : at_ ≤ l.length) : at_ < j ∧ j ≤ l.length := by
  unfold take at h
  obtain ⟨⟨v', j'⟩, h1, h2⟩ := Option.map_eq_some_iff.1 h
  simp only [Prod.mk.injEq] at h2
  have := tk_pos _ _ _ _ _ h1
  rw [List.length_drop] at this
  omega
def unzig (x : Nat) : Int := if x % 2 = 0 then (x / 2 : Nat) else -((x / 2 : Nat) : Int) - 1
theorem unzig_zig (m : Int) : unzig (zig m) = m := by
  unfold unzig zig
  split <;> split <;> omega
/-- a text at a place, and the place behind it -/
def takeText (l : List UInt8) (at_ : Nat) : Option (List UInt8 × Nat) :=
  match take l at_ with
  | none => none
  | some (n, j) => if 4096 < n ∨ l.length - j < n then none else some ((l.drop j).take n, j + n)
theorem takeText_put (a r s : List UInt8) (at_ : Nat) (ha : at_ = a.length) (hs : s.length ≤ 4096) : takeText (a ++ putText s ++ r) at_ = some (s, at_ + (putText s).length) := by
  have h := take_put a (s ++ r) s.length (by omega) at_ ha
  have e : a ++ put s.length ++ (s ++ r) = a ++ putText s ++ r := by simp [putText]
  rw [e] at h
  unfold takeText
  rw [h]
  have hl : (a ++ putText s ++ r).length - (at_ + (put s.length).length) = s.length + r.length := by simp [putText]; omega
  have hd : (a ++ putText s ++ r).drop (at_ + (put s.length).length) = s ++ r := by
    rw [← e, show at_ + (put s.length).length = (a ++ put s.length).length from by simp [ha], List.drop_left]
  simp only []
  rw [hl, hd, if_neg (by omega)]
  simp [putText]
  omega
theorem takeText_cut (l : List UInt8) (at_ j c : Nat) (s : List UInt8) (h : takeText l at_ = some (s, j)) (hat : at_ ≤ c) (hc : c ≤ l.length) (hj : c < j) : takeText (l.take c) at_ = none := by
  unfold takeText at h ⊢
  cases ht : take l at_ with
  | none => rw [ht] at h; cases h
  | some p =>
    obtain ⟨n, q⟩ := p
    rw [ht] at h
    rw [take_cut l at_ n q c ht hat]
    simp only [] at h
    split at h
    · cases h
    · simp only [Option.some.injEq, Prod.mk.injEq] at h
      by_cases hq : q ≤ c
      · rw [if_pos hq]
        simp only []
        rw [if_pos]
        right
        rw [List.length_take]
        omega
      · rw [if_neg hq]
theorem take_of_putInt (a r : List UInt8) (m : Int) (h1 : -9223372036854775808 ≤ m) (h2 : m ≤ 9223372036854775807) (at_ : Nat) (ha : at_ = a.length) :
    (take (a ++ put (zig m) ++ r) at_).map (fun p => (unzig p.1, p.2)) = some (m, at_ + (put (zig m)).length) := by
  rw [take_put a r _ (zig_lt m h1 h2) at_ ha, Option.map_some, unzig_zig]
end Go.Proofs.Ytlcnjinabfbglaa.Pk
namespace Go.Proofs.Ytlcnjinabfbglaa.Pk
theorem tk_canon : ∀ (f : Nat) (l : List UInt8) (i n v j : Nat), f + i = 9 → tkF l i n = some (v, j) →
    ∃ m, v = n + m * 2 ^ (7 * i) ∧ l.take (j - i) = putF (f + 1) m ∧ (0 < i → 0 < m) ∧ m < 2 ^ (64 - 7 * i)
  | f, [], i, n, v, j, hf, h => by simp [tkF] at h
  | f, x :: r, i, n, v, j, hf, h => by
    rw [tkF] at h
    have hx : x.toNat < 256 := x.toNat_lt
    split at h
    · cases h
    · rename_i hb
      split at h
      · rename_i h1
        simp only [Option.some.injEq, Prod.mk.injEq] at h
        obtain ⟨rfl, rfl⟩ := h
        refine ⟨x.toNat, by rw [Nat.mod_eq_of_lt h1], ?_, by omega, ?_⟩
        · rw [putF_small f _ h1, show i + 1 - i = 1 by omega]
          simp
        · by_cases h9 : i = 9
          · subst h9
            have : x.toNat < 2 := by omega
            simpa using this
          · have h8 : 8 ≤ 64 - 7 * i := by omega
            have := Nat.pow_le_pow_right (n := 2) (by omega) h8
            omega
      · rename_i h1
        match f, hf with
        | 0, hf => omega
        | f + 1, hf =>
          obtain ⟨m, e1, e2, e3, e4⟩ := tk_canon f r (i + 1) _ v j (by omega) h
          have hm := e3 (by omega)
          have hp := tk_pos r _ _ _ _ h
          have q1 : (x.toNat % 128 + 128 * m) % 128 = x.toNat % 128 := by omega
          have q2 : (x.toNat % 128 + 128 * m) / 128 = m := by omega
          refine ⟨x.toNat % 128 + 128 * m, ?_, ?_, by omega, ?_⟩
          · rw [e1, show 7 * (i + 1) = 7 * i + 7 by omega, Nat.pow_add, Nat.add_mul, Nat.add_assoc]
            congr 2
            rw [Nat.mul_comm (2 ^ (7 * i)) (2 ^ 7), ← Nat.mul_assoc]
            congr 1
            omega
          · rw [putF_big _ _ (by omega), q1, q2, ← e2, show j - i = (j - (i + 1)) + 1 by omega, List.take_succ_cons]
            congr 1
            apply UInt8.toNat_inj.1
            rw [UInt8.toNat_ofNat']
            omega
          · rw [show 64 - 7 * i = (64 - 7 * (i + 1)) + 7 by omega, Nat.pow_add]
            omega
theorem take_canon (l : List UInt8) (at_ v j : Nat) (h : take l at_ = some (v, j)) : (l.drop at_).take (j - at_) = put v ∧ v < 18446744073709551616 ∧ at_ < j := by
  unfold take at h
  obtain ⟨⟨v', j'⟩, h1, h2⟩ := Option.map_eq_some_iff.1 h
  simp only [Prod.mk.injEq] at h2
  obtain ⟨rfl, rfl⟩ := h2
  obtain ⟨m, e1, e2, -, e4⟩ := tk_canon 9 _ 0 0 _ _ rfl h1
  have := tk_pos _ _ _ _ _ h1
  have e5 : v' = m := by simpa using e1
  subst e5
  refine ⟨?_, by simpa using e4, by omega⟩
  rw [show at_ + j' - at_ = j' - 0 by omega]
  exact e2
theorem takeText_canon (l : List UInt8) (at_ j : Nat) (s : List UInt8) (h : takeText l at_ = some (s, j)) : (l.drop at_).take (j - at_) = putText s ∧ s.length ≤ 4096 ∧ at_ < j ∧ (at_ ≤ l.length → j ≤ l.length) := by
  unfold takeText at h
  cases ht : take l at_ with
  | none => rw [ht] at h; cases h
  | some p =>
    obtain ⟨n, k⟩ := p
    rw [ht] at h
    simp only at h
    split at h
    · cases h
    · rename_i hb
      simp only [Option.some.injEq, Prod.mk.injEq] at h
      obtain ⟨rfl, rfl⟩ := h
      obtain ⟨e1, -, e3⟩ := take_canon l at_ n k ht
      have hlen : ((l.drop k).take n).length = n := by rw [List.length_take, List.length_drop]; omega
      refine ⟨?_, by rw [hlen]; omega, by omega, ?_⟩
      · unfold putText
        rw [hlen, ← e1, show k + n - at_ = (k - at_) + n by omega, List.take_add, List.drop_drop, show at_ + (k - at_) = k by omega]
      · intro ha
        have := (take_le l at_ n k ht ha).2
        omega
end Go.Proofs.Ytlcnjinabfbglaa.Pk
namespace Go.Proofs.Ytlcnjinabfbglaa.Pk
def val : List UInt8 → Nat
  | [] => 0
  | x :: r => x.toNat % 128 + 128 * val r
theorem val_snoc : ∀ (l : List UInt8) (x : UInt8), val (l ++ [x]) = val l + 128 ^ l.length * (x.toNat % 128)
  | [], x => by simp [val]
  | y :: l, x => by
    rw [List.cons_append, val, val, val_snoc l x, List.length_cons, Nat.pow_succ, Nat.mul_add, Nat.add_assoc]
    congr 2
    rw [← Nat.mul_assoc, Nat.mul_comm 128 (128 ^ l.length)]
theorem putF_shape : ∀ (f n : Nat), n < 128 ^ (f + 1) → ∃ pre y, putF (f + 1) n = pre ++ [y] ∧ (∀ x ∈ pre, 128 ≤ x.toNat) ∧ y.toNat < 128 ∧ val (pre ++ [y]) = n
  | f, n, h => by
    by_cases h1 : n < 128
    · refine ⟨[], UInt8.ofNat n, putF_small f n h1, by simp, ?_, ?_⟩
      · rw [UInt8.toNat_ofNat']; omega
      · simp only [List.nil_append, val, UInt8.toNat_ofNat']; omega
    · match f, h with
      | 0, h => omega
      | f + 1, h =>
        have hp : n / 128 < 128 ^ (f + 1) := by
          rw [Nat.pow_succ] at h
          omega
        obtain ⟨pre, y, e1, e2, e3, e4⟩ := putF_shape f (n / 128) hp
        have hb : (UInt8.ofNat (n % 128 + 128)).toNat = n % 128 + 128 := by rw [UInt8.toNat_ofNat']; omega
        refine ⟨UInt8.ofNat (n % 128 + 128) :: pre, y, by rw [putF_big _ _ (by omega), e1]; rfl, ?_, e3, ?_⟩
        · intro x hx
          rcases List.mem_cons.1 hx with rfl | hx
          · omega
          · exact e2 x hx
        · rw [List.cons_append, val, e4, hb]; omega
theorem put_shape (n : Nat) (h : n < 18446744073709551616) : ∃ pre y, put n = pre ++ [y] ∧ (∀ x ∈ pre, 128 ≤ x.toNat) ∧ y.toNat < 128 ∧ val (pre ++ [y]) = n :=
  putF_shape 9 n (Nat.lt_trans h (by decide))
/-- what is taken: where it ends, and its bytes' sum -/
theorem take_shape (l : List UInt8) (at_ v j : Nat) (hat : at_ ≤ l.length) (h : take l at_ = some (v, j)) :
    ∃ k, j = at_ + (k + 1) ∧ k < 10 ∧ k < (l.drop at_).length ∧ (∀ i, i < k → 128 ≤ ((l.drop at_).getD i 0).toNat) ∧ ((l.drop at_).getD k 0).toNat < 128 ∧ val ((l.drop at_).take (k + 1)) = v ∧ put v = (l.drop at_).take (k + 1) ∧ v < 18446744073709551616 := by
  obtain ⟨e1, e2, e3⟩ := take_canon l at_ v j h
  have e4 := (take_le l at_ v j h hat).2
  obtain ⟨pre, y, f1, f2, f3, f4⟩ := put_shape v e2
  have hpl := put_len v
  have hl := congrArg List.length e1
  rw [List.length_take, List.length_drop, f1, List.length_append, List.length_singleton] at hl
  rw [f1, List.length_append, List.length_singleton] at hpl
  have hd : (l.drop at_).length = l.length - at_ := List.length_drop ..
  have hjk : j - at_ = pre.length + 1 := by omega
  rw [hjk] at e1
  have hg : ∀ i, i < pre.length + 1 → (l.drop at_).getD i 0 = (pre ++ [y]).getD i 0 := fun i hi => by
    rw [← f1, ← e1]
    simp only [List.getD_eq_getElem?_getD]
    rw [List.getElem?_take, if_pos hi]
  refine ⟨pre.length, by omega, by omega, by omega, fun i hi => ?_, ?_, by rw [e1, f1, f4], by rw [e1], e2⟩
  · rw [hg i (by omega)]
    have : (pre ++ [y]).getD i 0 = pre[i] := by simp [List.getD_eq_getElem?_getD, List.getElem?_append_left hi, hi]
    rw [this]
    exact f2 _ (List.getElem_mem hi)
  · rw [hg _ (by omega)]
    have : (pre ++ [y]).getD pre.length 0 = y := by simp [List.getD_eq_getElem?_getD]
    rw [this]
    exact f3
theorem take_of (l : List UInt8) (at_ v k : Nat) (hat : at_ ≤ l.length) (hk : k < (l.drop at_).length) (hv : v < 18446744073709551616) (h : put v = (l.drop at_).take (k + 1)) : take l at_ = some (v, at_ + (k + 1)) := by
  have hl := congrArg List.length h
  rw [List.length_take] at hl
  have e : l = l.take at_ ++ put v ++ (l.drop at_).drop (k + 1) := by
    rw [h, List.append_assoc, List.take_append_drop, List.take_append_drop]
  have := take_put (l.take at_) ((l.drop at_).drop (k + 1)) v hv at_ (by rw [List.length_take]; omega)
  rw [← e] at this
  rw [this, hl, Nat.min_eq_left (by omega)]
theorem take_end (l : List UInt8) (at_ k v : Nat) (hat : at_ ≤ l.length) (hk : k < (l.drop at_).length) (hbig : ∀ i, i < k → 128 ≤ ((l.drop at_).getD i 0).toNat) (hx : ((l.drop at_).getD k 0).toNat < 128)
    (hv : v = val ((l.drop at_).take (k + 1)) % 18446744073709551616) : take l at_ = if put v = (l.drop at_).take (k + 1) then some (v, at_ + (k + 1)) else none := by
  by_cases h : put v = (l.drop at_).take (k + 1)
  · rw [if_pos h]
    exact take_of l at_ v k hat hk (by omega) h
  · rw [if_neg h]
    cases ht : take l at_ with
    | none => rfl
    | some p =>
      exfalso
      obtain ⟨v', j⟩ := p
      obtain ⟨k', e1, e2, e3, e4, e5, e6, e7, e8⟩ := take_shape l at_ v' j hat ht
      have hkk : k' = k := by
        rcases Nat.lt_trichotomy k' k with hh | hh | hh
        · have := hbig k' hh; omega
        · exact hh
        · have := e4 k hh; omega
      subst hkk
      apply h
      rw [hv, e6, Nat.mod_eq_of_lt e8]
      exact e7
theorem take_never (l : List UInt8) (at_ k : Nat) (hat : at_ ≤ l.length) (hk : 10 ≤ k ∨ (l.drop at_).length ≤ k) (hbig : ∀ i, i < k → 128 ≤ ((l.drop at_).getD i 0).toNat) : take l at_ = none := by
  cases ht : take l at_ with
  | none => rfl
  | some p =>
    exfalso
    obtain ⟨v', j⟩ := p
    obtain ⟨k', e1, e2, e3, e4, e5, e6, e7, e8⟩ := take_shape l at_ v' j hat ht
    have := hbig k' (by omega)
    omega
theorem val_next (d : List UInt8) (k n w : Nat) (x : UInt8) (hk : k < d.length) (hx : x = d.getD k 0) (hn : n = val (d.take k) % 18446744073709551616) (hw : w = 128 ^ k % 18446744073709551616) :
    (n + x.toNat % 128 * w % 18446744073709551616) % 18446744073709551616 = val (d.take (k + 1)) % 18446744073709551616 ∧ w * 128 % 18446744073709551616 = 128 ^ (k + 1) % 18446744073709551616 := by
  have e : d.take (k + 1) = d.take k ++ [x] := by
    rw [List.take_succ_eq_append_getElem hk, hx]; simp [hk]
  rw [e, val_snoc, List.length_take, Nat.min_eq_left (by omega), Nat.pow_succ, hn, hw]
  generalize val (d.take k) = a
  generalize 128 ^ k = b
  constructor
  · rw [Nat.mul_comm b]
    simp [Nat.add_mod, Nat.mul_mod]
  · simp [Nat.mul_mod]
end Go.Proofs.Ytlcnjinabfbglaa.Pk
