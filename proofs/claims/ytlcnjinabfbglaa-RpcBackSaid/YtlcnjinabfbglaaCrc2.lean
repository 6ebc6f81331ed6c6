/- Plain: bits turned in a row of bytes. -/
namespace Go.Proofs.Ytlcnjinabfbglaa.Crc
/-- the reflected polynomial -/
def poly : BitVec 32 := 0x82f63b78#32
def turn (c : BitVec 32) : BitVec 32 := (c >>> 1) ^^^ (if c.getLsbD 0 then poly else 0#32)
def one (b : Bool) : BitVec 32 := if b then 1#32 else 0#32
/-- bit by bit -/
def bitIn (c : BitVec 32) (b : Bool) : BitVec 32 := turn (c ^^^ one b)
def turns : Nat → BitVec 32 → BitVec 32
  | 0, c => c
  | n + 1, c => turns n (turn c)
def wide (x : UInt8) : BitVec 32 := BitVec.ofNat 32 x.toNat
def step (c : BitVec 32) (x : UInt8) : BitVec 32 := turns 8 (c ^^^ wide x)
def on (c : BitVec 32) (l : List UInt8) : BitVec 32 := ~~~ (l.foldl step (~~~ c))
def bits8 (x : UInt8) : List Bool := (List.range 8).map x.toNat.testBit
def bitsOf (l : List UInt8) : List Bool := l.flatMap bits8

theorem turn_xor (a b : BitVec 32) : turn (a ^^^ b) = turn a ^^^ turn b := by
  unfold turn
  rw [BitVec.getLsbD_xor]
  cases a.getLsbD 0 <;> cases b.getLsbD 0 <;> simp [BitVec.ushiftRight_xor_distrib]
  · ac_rfl
  · ac_rfl
  · rw [show ∀ x y p : BitVec 32, x ^^^ p ^^^ (y ^^^ p) = (x ^^^ y) ^^^ (p ^^^ p) from by intros; ac_rfl]; simp

theorem turn_even {a : BitVec 32} (h : a.getLsbD 0 = false) : turn a = a >>> 1 := by
  unfold turn; rw [h]; simp

theorem turns_xor (n : Nat) : ∀ a b : BitVec 32, turns n (a ^^^ b) = turns n a ^^^ turns n b := by
  induction n with
  | zero => intro a b; rfl
  | succ n ih => intro a b; simp only [turns]; rw [turn_xor, ih]

theorem turns_even (n : Nat) : ∀ a : BitVec 32, (∀ k, k < n → a.getLsbD k = false) → turns n a = a >>> n := by
  induction n with
  | zero => intro a _; simp [turns]
  | succ n ih =>
    intro a h
    simp only [turns]
    rw [turn_even (h 0 (by omega)), ih]
    · rw [← BitVec.shiftRight_add, Nat.add_comm]
    · intro k hk
      rw [BitVec.getLsbD_ushiftRight]
      exact h _ (by omega)

theorem turns_add (m n : Nat) : ∀ c, turns (m + n) c = turns n (turns m c) := by
  induction m with
  | zero => intro c; simp [turns]
  | succ m ih => intro c; rw [show m + 1 + n = (m + n) + 1 from by omega]; simp only [turns]; exact ih _

/-- a nibble at once -/
theorem nib (c : BitVec 32) : turns 4 c = turns 4 (c &&& 15#32) ^^^ (c >>> 4) := by
  have h : c = (c &&& 15#32) ^^^ (c &&& 0xfffffff0#32) := by
    apply BitVec.eq_of_getLsbD_eq
    intro i hi
    simp only [BitVec.getLsbD_xor, BitVec.getLsbD_and]
    have : (15#32).getLsbD i = !(0xfffffff0#32).getLsbD i := by
      revert i; decide
    rw [this]; cases c.getLsbD i <;> cases (0xfffffff0#32).getLsbD i <;> rfl
  have h2 : turns 4 (c &&& 0xfffffff0#32) = (c &&& 0xfffffff0#32) >>> 4 := by
    apply turns_even
    intro k hk
    rw [BitVec.getLsbD_and]
    have : (0xfffffff0#32).getLsbD k = false := by revert k; decide
    rw [this]; simp
  have h3 : (c &&& 0xfffffff0#32) >>> 4 = c >>> 4 := by
    apply BitVec.eq_of_getLsbD_eq
    intro i hi
    simp only [BitVec.getLsbD_ushiftRight, BitVec.getLsbD_and]
    by_cases h28 : 4 + i < 32
    · have : (0xfffffff0#32).getLsbD (4 + i) = true := by
        have : ∀ j, j < 28 → (0xfffffff0#32).getLsbD (4 + j) = true := by decide
        exact this i (by omega)
      rw [this]; simp
    · rw [BitVec.getLsbD_of_ge c _ (by omega)]; simp
  calc turns 4 c = turns 4 ((c &&& 15#32) ^^^ (c &&& 0xfffffff0#32)) := by rw [← h]
    _ = _ := by rw [turns_xor, h2, h3]

/-! ### the reference: division of a row of bits -/
/-- bit j turned -/
def flip (l : List Bool) (j : Nat) : List Bool := l.set j (!(l.getD j false))
def flips (l : List Bool) (js : List Nat) : List Bool := js.foldl flip l
def powers : List Nat := [28, 27, 26, 25, 23, 22, 20, 19, 18, 14, 13, 11, 10, 9, 8, 6, 0]
def divStep (i : Nat) (l : List Bool) : List Bool :=
  if l.getD i false then flips (l.set i false) (powers.map fun p => i + 32 - p) else l
def divTo : Nat → List Bool → List Bool
  | 0, l => l
  | i + 1, l => divStep i (divTo i l)
/-- the first k bits turned -/
def first (k : Nat) (l : List Bool) : List Bool := flips l (List.range k)
def laid (b : List UInt8) : List Bool := bitsOf b ++ List.replicate 32 false
def refBits (b : List UInt8) : List Bool := divTo (bitsOf b).length (first 32 (laid b))
theorem length_flip (l : List Bool) (j : Nat) : (flip l j).length = l.length := by simp [flip]
theorem length_flips (js : List Nat) : ∀ l : List Bool, (flips l js).length = l.length := by
  induction js with
  | nil => intro l; rfl
  | cons j js ih => intro l; simp only [flips, List.foldl_cons]; exact (ih _).trans (length_flip _ _)
theorem length_divStep (i : Nat) (l : List Bool) : (divStep i l).length = l.length := by
  unfold divStep; split
  · rw [length_flips]; simp
  · rfl
theorem length_divTo (i : Nat) (l : List Bool) : (divTo i l).length = l.length := by
  induction i with
  | zero => rfl
  | succ i ih => simp only [divTo]; rw [length_divStep, ih]
theorem getD_flip (l : List Bool) (j k : Nat) (hj : j < l.length) : (flip l j).getD k false = ((l.getD k false) ^^ (decide (j = k))) := by
  unfold flip
  simp only [List.getD_eq_getElem?_getD, List.getElem?_set]
  by_cases h : j = k
  · subst h; simp [hj]
  · simp [h]
theorem getD_flips (js : List Nat) : ∀ (l : List Bool) (k : Nat), (∀ j ∈ js, j < l.length) → js.Nodup →
    (flips l js).getD k false = ((l.getD k false) ^^ (js.contains k)) := by
  induction js with
  | nil => intro l k _ _; simp [flips]
  | cons j js ih =>
    intro l k h hn
    rw [List.nodup_cons] at hn
    have := ih (flip l j) k (fun i hi => by rw [length_flip]; exact h i (by simp [hi])) hn.2
    simp only [flips, List.foldl_cons] at this ⊢
    rw [this, getD_flip _ _ _ (h j (by simp))]
    by_cases hk : j = k
    · subst hk
      have hc : js.contains j = false := by simp [hn.1]
      rw [hc, List.contains_cons]
      simp
    · have h1 : (k == j) = false := by simp; omega
      rw [List.contains_cons, h1]
      simp [hk]
theorem length_bits8 (x : UInt8) : (bits8 x).length = 8 := by simp [bits8]
theorem length_bitsOf (b : List UInt8) : (bitsOf b).length = 8 * b.length := by
  unfold bitsOf
  induction b with
  | nil => rfl
  | cons x b ih => rw [List.flatMap_cons, List.length_append, ih, length_bits8]; simp; omega

theorem exists_bv (f : Nat → Bool) : ∀ w, ∃ m : BitVec w, ∀ k, k < w → m.getLsbD k = f k := by
  intro w
  induction w with
  | zero => exact ⟨0#0, by omega⟩
  | succ w ih =>
    obtain ⟨m, hm⟩ := ih
    refine ⟨BitVec.cons (f w) m, fun k hk => ?_⟩
    rw [BitVec.getLsbD_cons]
    by_cases h : k = w
    · simp [h]
    · simp [h]; exact hm k (by omega)

theorem poly_powers : ∀ k, k < 32 → poly.getLsbD k = (powers.map fun p => 31 - p).contains k := by decide
theorem powers_le : ∀ p ∈ powers, p ≤ 28 := by decide

theorem nodup_map {α β : Type} (f : α → β) : ∀ l : List α, (∀ p ∈ l, ∀ q ∈ l, f p = f q → p = q) → l.Nodup → (l.map f).Nodup := by
  intro l
  induction l with
  | nil => intro _ _; simp
  | cons a l ih =>
    intro h hn
    rw [List.nodup_cons] at hn
    rw [List.map_cons, List.nodup_cons]
    refine ⟨?_, ih (fun p hp q hq => h p (by simp [hp]) q (by simp [hq])) hn.2⟩
    rw [List.mem_map]
    rintro ⟨q, hq, he⟩
    exact hn.1 (h q (by simp [hq]) a (by simp) he ▸ hq)
theorem nodup_powers (i : Nat) : (powers.map fun p => i + 32 - p).Nodup :=
  nodup_map _ _ (fun p hp q hq h => by have := powers_le p hp; have := powers_le q hq; omega) (by decide)

def nextBit (m : BitVec 32) (b : Bool) : BitVec 32 := (m >>> 1) ^^^ (if b then 0x80000000#32 else 0#32)
theorem nextBit_get (m : BitVec 32) (b : Bool) (f : Nat → Bool) (h : ∀ k, k < 32 → m.getLsbD k = f k) (hb : f 32 = b) :
    ∀ k, k < 32 → (nextBit m b).getLsbD k = f (k + 1) := by
  intro k hk
  unfold nextBit
  rw [BitVec.getLsbD_xor, BitVec.getLsbD_ushiftRight]
  by_cases h31 : k = 31
  · subst h31
    rw [BitVec.getLsbD_of_ge m _ (by omega), hb]
    cases b <;> rfl
  · have : (if b = true then 2147483648#32 else 0#32).getLsbD k = false := by
      cases b
      · simp
      · have : ∀ k, k < 31 → (2147483648#32).getLsbD k = false := by decide
        exact this k (by omega)
    rw [this, h _ (by omega), Nat.add_comm]; simp

/-- what the rest of the row is, and the window, behind i steps -/
theorem div_inv (M : List Bool) (L0 : List Bool) (n : Nat) (hlen : L0.length = n + 32) (hM : ∀ j, 32 ≤ j → L0.getD j false = M.getD j false)
    (w0 : BitVec 32) (h0 : ∀ k, k < 32 → w0.getLsbD k = L0.getD k false) (c0 m0 : BitVec 32) (hm0 : ∀ k, k < 32 → m0.getLsbD k = M.getD k false) (hw0 : w0 = c0 ^^^ m0) :
    ∀ i, i ≤ n → ∃ m : BitVec 32, (∀ k, k < 32 → m.getLsbD k = M.getD (i + k) false) ∧
      (∀ k, k < 32 → (((List.range i).map fun j => M.getD j false).foldl bitIn c0 ^^^ m).getLsbD k = (divTo i L0).getD (i + k) false) ∧
      (∀ j, i + 32 ≤ j → (divTo i L0).getD j false = M.getD j false) := by
  intro i
  induction i with
  | zero => intro _; exact ⟨m0, by simpa using hm0, by simpa [divTo, ← hw0] using h0, by simpa [divTo] using hM⟩
  | succ i ih =>
    intro hi
    obtain ⟨m, hm, hw, hr⟩ := ih (by omega)
    generalize hc : ((List.range i).map fun j => M.getD j false).foldl bitIn c0 = c at hw
    generalize hL : divTo i L0 = L at hw hr
    have hLlen : L.length = n + 32 := by rw [← hL, length_divTo, hlen]
    refine ⟨nextBit m (M.getD (i + 32) false), ?_, ?_, ?_⟩
    · intro k hk
      rw [nextBit_get m _ (fun k => M.getD (i + k) false) hm rfl k hk]
      rw [show i + (k + 1) = i + 1 + k from by omega]
    · have hcs : ((List.range (i + 1)).map fun j => M.getD j false).foldl bitIn c0 = bitIn c (M.getD i false) := by
        rw [List.range_succ, List.map_append, List.foldl_append, hc]; rfl
      rw [hcs]
      -- the new window is the old one, turned, with the next bit
      have hwin : bitIn c (M.getD i false) ^^^ nextBit m (M.getD (i + 32) false) = turn (c ^^^ m) ^^^ (if M.getD (i + 32) false then 0x80000000#32 else 0#32) := by
        unfold bitIn nextBit
        have hm0 : m.getLsbD 0 = M.getD i false := by simpa using hm 0 (by omega)
        have hs : m = one (M.getD i false) ^^^ (m ^^^ one (M.getD i false)) := by
          rw [BitVec.xor_comm m, ← BitVec.xor_assoc]; simp
        have he : turn (m ^^^ one (M.getD i false)) = m >>> 1 := by
          rw [turn_even]
          · apply BitVec.eq_of_getLsbD_eq
            intro k hk
            rw [BitVec.getLsbD_ushiftRight, BitVec.getLsbD_ushiftRight, BitVec.getLsbD_xor]
            have : (one (M.getD i false)).getLsbD (1 + k) = false := by
              unfold one; split
              · simp [BitVec.getLsbD_one]
              · simp
            rw [this]; simp
          · rw [BitVec.getLsbD_xor, hm0]; unfold one; cases M.getD i false <;> simp
        have : turn (c ^^^ m) = turn (c ^^^ one (M.getD i false)) ^^^ (m >>> 1) := by
          conv => lhs; rw [hs]
          rw [← BitVec.xor_assoc, turn_xor, he]
        rw [this, BitVec.xor_assoc]
      rw [hwin]
      intro k hk
      rw [BitVec.getLsbD_xor]
      have hnb := nextBit_get (c ^^^ m) (L.getD (i + 32) false) (fun k => L.getD (i + k) false) hw rfl k hk
      have hr32 := hr (i + 32) (by omega)
      rw [hr32] at hnb
      unfold nextBit at hnb
      rw [BitVec.getLsbD_xor] at hnb
      have hdv : (divTo (i + 1) L0).getD (i + 1 + k) false = (L.getD (i + 1 + k) false ^^ (L.getD i false && poly.getLsbD k)) := by
        simp only [divTo, hL, divStep]
        by_cases hb : L.getD i false = true
        · rw [if_pos hb, getD_flips]
          · rw [hb]
            have h1 : (L.set i false).getD (i + 1 + k) false = L.getD (i + 1 + k) false := by
              simp only [List.getD_eq_getElem?_getD]
              rw [List.getElem?_set_ne (by omega)]
            rw [h1, poly_powers k hk]
            congr 1
            simp only [Bool.true_and]
            rw [Bool.eq_iff_iff]
            simp only [List.contains_iff_mem, List.mem_map]
            constructor
            · rintro ⟨p, hp, he⟩; exact ⟨p, hp, by have := powers_le p hp; omega⟩
            · rintro ⟨p, hp, he⟩; exact ⟨p, hp, by have := powers_le p hp; omega⟩
          · intro j hj
            rw [List.mem_map] at hj
            obtain ⟨p, hp, rfl⟩ := hj
            have := powers_le p hp
            rw [List.length_set, hLlen]; omega
          · exact nodup_powers i
        · rw [if_neg hb]; simp at hb; simp [hb]
      rw [hdv]
      have hw0 := hw 0 (by omega)
      unfold turn
      rw [BitVec.getLsbD_xor, hw0]
      simp only [Nat.add_zero]
      rw [show i + 1 + k = i + (k + 1) from by omega, ← hnb]
      have h3 : ∀ a b c : Bool, ((a ^^ b) ^^ c) = ((a ^^ c) ^^ b) := by decide
      cases hb : L.getD i false
      · simp
      · simp only [Bool.true_and, if_true]
        exact h3 _ _ _
    · intro j hj
      simp only [divTo, hL, divStep]
      split
      · rw [getD_flips]
        · have : (powers.map fun p => i + 32 - p).contains j = false := by
            simp only [List.contains_eq_mem, decide_eq_false_iff_not, List.mem_map]
            rintro ⟨p, hp, he⟩; omega
          rw [this]
          simp only [List.getD_eq_getElem?_getD]
          rw [List.getElem?_set_ne (by omega)]
          simpa using hr j (by omega)
        · intro j hj
          rw [List.mem_map] at hj
          obtain ⟨p, hp, rfl⟩ := hj
          have := powers_le p hp
          rw [List.length_set, hLlen]; omega
        · exact nodup_powers i
      · exact hr j (by omega)

theorem foldl_bits8 (c : BitVec 32) (x : UInt8) : (bits8 x).foldl bitIn c = step c x := by
  have key : ∀ (x0 x1 x2 x3 x4 x5 x6 x7 : Bool) (X : BitVec 32),
      X = one x0 ^^^ (one x1 <<< 1) ^^^ (one x2 <<< 2) ^^^ (one x3 <<< 3) ^^^ (one x4 <<< 4) ^^^ (one x5 <<< 5) ^^^ (one x6 <<< 6) ^^^ (one x7 <<< 7) →
      [x0, x1, x2, x3, x4, x5, x6, x7].foldl bitIn c = turns 8 (c ^^^ X) := by
    intro x0 x1 x2 x3 x4 x5 x6 x7 X hX
    have t : ∀ (b : Bool) (k : Nat), k < 31 → turn (one b <<< (k + 1)) = one b <<< k := by
      intro b k hk
      rw [turn_even (by simp)]
      apply BitVec.eq_of_getLsbD_eq
      intro i hi
      rw [BitVec.getLsbD_ushiftRight, BitVec.getLsbD_shiftLeft, BitVec.getLsbD_shiftLeft]
      by_cases h31 : 1 + i < 32
      · rw [show 1 + i - (k + 1) = i - k from by omega]
        have e : decide (1 + i < k + 1) = decide (i < k) := by rw [decide_eq_decide]; omega
        rw [e]
        simp [hi, h31]
      · have : (one b).getLsbD (i - k) = false := by
          unfold one; split
          · rw [BitVec.getLsbD_one]; simp; omega
          · simp
        simp [h31, this]
    subst hX
    simp only [List.foldl, turns, bitIn]
    simp only [turn_xor]
    simp only [t _ _ (by omega : 0 < 31), t _ _ (by omega : 1 < 31), t _ _ (by omega : 2 < 31), t _ _ (by omega : 3 < 31), t _ _ (by omega : 4 < 31), t _ _ (by omega : 5 < 31), t _ _ (by omega : 6 < 31), BitVec.shiftLeft_zero]
    ac_rfl
  have : bits8 x = [x.toNat.testBit 0, x.toNat.testBit 1, x.toNat.testBit 2, x.toNat.testBit 3, x.toNat.testBit 4, x.toNat.testBit 5, x.toNat.testBit 6, x.toNat.testBit 7] := rfl
  rw [this, key _ _ _ _ _ _ _ _ (wide x)]
  · rfl
  · have hx : x.toNat < 256 := x.toNat_lt
    unfold wide
    generalize x.toNat = n at hx
    revert n
    decide +kernel

theorem foldl_bitsOf (l : List UInt8) : ∀ c : BitVec 32, (bitsOf l).foldl bitIn c = l.foldl step c := by
  induction l with
  | nil => intro c; rfl
  | cons x l ih =>
    intro c
    show (bits8 x ++ bitsOf l).foldl bitIn c = _
    rw [List.foldl_append, foldl_bits8, ih]; rfl

theorem getD_laid (b : List UInt8) (j : Nat) : (laid b).getD j false = (bitsOf b).getD j false := by
  unfold laid
  simp only [List.getD_eq_getElem?_getD]
  by_cases h : j < (bitsOf b).length
  · rw [List.getElem?_append_left h]
  · rw [List.getElem?_append_right (by omega), List.getElem?_eq_none (l := bitsOf b) (by omega)]
    rw [List.getElem?_replicate]
    split <;> rfl

/-- P2.1: BY TABLE AND BY DIVISION IS THE SAME: each bit of what is left over -/
theorem ref_bits (b : List UInt8) : ∀ k, k < 32 → (on 0#32 b).getLsbD k = !((refBits b).getD ((bitsOf b).length + k) false) := by
  obtain ⟨m0, hm0⟩ := exists_bv (fun k => (bitsOf b).getD k false) 32
  have hlen : (first 32 (laid b)).length = (bitsOf b).length + 32 := by
    unfold first; rw [length_flips]; simp [laid]
  have hf : ∀ j, (first 32 (laid b)).getD j false = ((bitsOf b).getD j false ^^ decide (j < 32)) := by
    intro j
    unfold first
    rw [getD_flips]
    · rw [getD_laid]
      have : (List.range 32).contains j = decide (j < 32) := by
        rw [Bool.eq_iff_iff, List.contains_iff_mem, List.mem_range, decide_eq_true_eq]
      rw [this]
    · intro j hj
      rw [List.mem_range] at hj
      simp [laid]; omega
    · exact List.nodup_range
  have ones : ∀ k, k < 32 → (~~~(0#32)).getLsbD k = true := by decide
  obtain ⟨m, hm, hw, -⟩ := div_inv (bitsOf b) (first 32 (laid b)) (bitsOf b).length hlen
    (fun j hj => by rw [hf, decide_eq_false (by omega)]; simp)
    (~~~ 0#32 ^^^ m0)
    (fun k hk => by rw [BitVec.getLsbD_xor, ones k hk, hm0 k hk, hf]; simp [hk])
    (~~~ 0#32) m0 hm0 rfl (bitsOf b).length (Nat.le_refl _)
  have hz : m = 0#32 := by
    apply BitVec.eq_of_getLsbD_eq
    intro k hk
    rw [hm k hk]
    simp
  have hr : (List.range (bitsOf b).length).map (fun j => (bitsOf b).getD j false) = bitsOf b := by
    apply List.ext_getElem
    · simp
    · intro i h1 h2
      simp at h1 ⊢
      simp [h1]
  rw [hz, hr, foldl_bitsOf] at hw
  intro k hk
  unfold on
  rw [BitVec.getLsbD_not]
  unfold refBits
  rw [← hw k hk]
  simp [hk]
/-- one bit more of what is told -/
theorem told_step (l : List Bool) (n : Nat) (c : BitVec 32) (h : ∀ k, k < 32 → c.getLsbD k = !(l.getD (n + k) false)) (i : Nat) (hi : i < 32) :
    2 * (c.toNat / 2 ^ (i + 1)) + (if l.getD (n + i) false then 0 else 1) = c.toNat / 2 ^ i := by
  have hb := h i hi
  have e1 : (if l.getD (n + i) false then 0 else 1) = c.toNat / 2 ^ i % 2 := by
    have : c.getLsbD i = decide (c.toNat / 2 ^ i % 2 = 1) := by
      rw [BitVec.getLsbD, Nat.testBit_eq_decide_div_mod_eq]
    rw [hb] at this
    generalize l.getD (n + i) false = q at this
    have := this.symm
    cases q
    · simp only [Bool.not_false, decide_eq_true_eq] at this
      simp [this]
    · simp only [Bool.not_true, decide_eq_false_iff_not] at this
      simp; omega
  rw [e1, Nat.pow_succ, ← Nat.div_div_eq_div_mul]
  omega

/-! ### what the check tells -/
theorem wide_xor (x y : UInt8) : wide (x ^^^ y) = wide x ^^^ wide y := by
  unfold wide
  apply BitVec.eq_of_getLsbD_eq
  intro i hi
  rw [BitVec.getLsbD_xor, BitVec.getLsbD_ofNat, BitVec.getLsbD_ofNat, BitVec.getLsbD_ofNat, UInt8.toNat_xor, Nat.testBit_xor]
  simp [hi]
theorem step_xor (c d : BitVec 32) (x y : UInt8) : step (c ^^^ d) (x ^^^ y) = step c x ^^^ step d y := by
  unfold step
  rw [← turns_xor, wide_xor]
  congr 1
  ac_rfl
theorem foldl_step_xor : ∀ (a b : List UInt8) (c d : BitVec 32), a.length = b.length →
    (List.zipWith (· ^^^ ·) a b).foldl step (c ^^^ d) = a.foldl step c ^^^ b.foldl step d := by
  intro a
  induction a with
  | nil => intro b c d h; cases b with
    | nil => rfl
    | cons => simp at h
  | cons x a ih => intro b c d h; cases b with
    | nil => simp at h
    | cons y b =>
      simp only [List.zipWith_cons_cons, List.foldl_cons, step_xor]
      exact ih b _ _ (by simpa using h)
theorem sums (a b : List UInt8) (h : a.length = b.length) :
    on 0#32 a ^^^ on 0#32 b ^^^ on 0#32 (List.zipWith (· ^^^ ·) a b) = on 0#32 (List.replicate a.length 0) := by
  have hz : ∀ l : List UInt8, List.zipWith (· ^^^ ·) l (List.replicate l.length 0) = l := by
    intro l
    induction l with
    | nil => rfl
    | cons x l ih => rw [List.length_cons, List.replicate_succ, List.zipWith_cons_cons, ih]; simp
  have f : ∀ l : List UInt8, l.length = a.length → l.foldl step (~~~ 0#32) = l.foldl step 0#32 ^^^ (List.replicate a.length 0).foldl step (~~~ 0#32) := by
    intro l hl
    have := foldl_step_xor l (List.replicate a.length 0) 0#32 (~~~ 0#32) (by simp [hl])
    rw [← hl, hz, hl] at this
    simpa using this
  have e := foldl_step_xor a b 0#32 0#32 h
  simp only [BitVec.xor_self] at e
  unfold on
  rw [f a rfl, f b h.symm, f (List.zipWith (· ^^^ ·) a b) (by simp [h]), e]
  generalize List.foldl step 0#32 a = A
  generalize List.foldl step 0#32 b = B
  generalize List.foldl step (~~~0#32) (List.replicate a.length 0) = Z
  apply BitVec.eq_of_getLsbD_eq
  intro i hi
  simp only [BitVec.getLsbD_xor, BitVec.getLsbD_not, hi, decide_true, Bool.true_and]
  cases A.getLsbD i <;> cases B.getLsbD i <;> cases Z.getLsbD i <;> rfl

theorem turn_inj {c : BitVec 32} (h : turn c = 0#32) : c = 0#32 := by
  have h31 : c.getLsbD 0 = false := by
    have : (turn c).getLsbD 31 = false := by rw [h]; rfl
    unfold turn at this
    rw [BitVec.getLsbD_xor, BitVec.getLsbD_ushiftRight, BitVec.getLsbD_of_ge c _ (by omega)] at this
    cases hc : c.getLsbD 0
    · rfl
    · rw [hc] at this
      revert this; decide
  rw [turn_even h31] at h
  apply BitVec.eq_of_getLsbD_eq
  intro i hi
  cases i with
  | zero => rw [h31]; rfl
  | succ i =>
    have : (c >>> 1).getLsbD i = false := by rw [h]; simp
    rw [BitVec.getLsbD_ushiftRight] at this
    rw [Nat.add_comm, this]; simp
theorem turn_zero : turn 0#32 = 0#32 := by decide
theorem turns_zero (n : Nat) : turns n 0#32 = 0#32 := by
  induction n with
  | zero => rfl
  | succ n ih => simp only [turns, turn_zero, ih]
theorem turns_inj (n : Nat) : ∀ {c : BitVec 32}, turns n c = 0#32 → c = 0#32 := by
  induction n with
  | zero => intro c h; exact h
  | succ n ih => intro c h; exact turn_inj (ih h)
theorem bitIn_xor (c d : BitVec 32) (x y : Bool) : bitIn (c ^^^ d) (x ^^ y) = bitIn c x ^^^ bitIn d y := by
  unfold bitIn
  rw [← turn_xor]
  congr 1
  have : one (x ^^ y) = one x ^^^ one y := by cases x <;> cases y <;> rfl
  rw [this]; ac_rfl
theorem foldl_bitIn_xor : ∀ (a b : List Bool) (c d : BitVec 32), a.length = b.length →
    (List.zipWith (· ^^ ·) a b).foldl bitIn (c ^^^ d) = a.foldl bitIn c ^^^ b.foldl bitIn d := by
  intro a
  induction a with
  | nil => intro b c d h; cases b with
    | nil => rfl
    | cons => simp at h
  | cons x a ih => intro b c d h; cases b with
    | nil => simp at h
    | cons y b =>
      simp only [List.zipWith_cons_cons, List.foldl_cons, bitIn_xor]
      exact ih b _ _ (by simpa using h)
theorem foldl_false (n : Nat) : ∀ c : BitVec 32, (List.replicate n false).foldl bitIn c = turns n c := by
  induction n with
  | zero => intro c; rfl
  | succ n ih => intro c; rw [List.replicate_succ, List.foldl_cons, ih]; simp [turns, bitIn, one]
theorem turn_split (c X : BitVec 32) (b : Bool) (h : X.getLsbD 0 = b) : turn (c ^^^ X) = turn (c ^^^ one b) ^^^ (X >>> 1) := by
  have hs : X = one b ^^^ (X ^^^ one b) := by rw [BitVec.xor_comm X, ← BitVec.xor_assoc]; simp
  have he : turn (X ^^^ one b) = X >>> 1 := by
    rw [turn_even]
    · apply BitVec.eq_of_getLsbD_eq
      intro k hk
      rw [BitVec.getLsbD_ushiftRight, BitVec.getLsbD_ushiftRight, BitVec.getLsbD_xor]
      have : (one b).getLsbD (1 + k) = false := by
        unfold one; split
        · simp [BitVec.getLsbD_one]
        · simp
      rw [this]; simp
    · rw [BitVec.getLsbD_xor, h]; unfold one; cases b <;> simp
  conv => lhs; rw [hs]
  rw [← BitVec.xor_assoc, turn_xor, he]
theorem foldl_word : ∀ (l : List Bool) (c X : BitVec 32), (∀ k, k < 32 → X.getLsbD k = l.getD k false) → l.length ≤ 32 →
    l.foldl bitIn c = turns l.length (c ^^^ X) := by
  intro l
  induction l with
  | nil =>
    intro c X h _
    have : X = 0#32 := by
      apply BitVec.eq_of_getLsbD_eq
      intro i hi; rw [h i hi]; simp
    simp [this, turns]
  | cons b l ih =>
    intro c X h hl
    rw [List.foldl_cons, List.length_cons, turns]
    rw [turn_split c X b (by simpa using h 0 (by omega))]
    simp only [List.length_cons] at hl
    refine ih _ (X >>> 1) ?_ (by omega)
    intro k hk
    rw [BitVec.getLsbD_ushiftRight]
    by_cases hk2 : 1 + k < 32
    · rw [h _ hk2, Nat.add_comm]; simp
    · rw [BitVec.getLsbD_of_ge _ _ (by omega)]
      simp; rw [List.getElem?_eq_none (by omega)]; rfl

/-- A BURST: bits turned within 32, from 'at' on: the register goes to nought just if none is turned. -/
theorem burst (a c : List UInt8) (at_ : Nat) (mask : BitVec 32) (hl : a.length = c.length) (hat : at_ + 32 ≤ 8 * a.length)
    (hb : ∀ j, j < 8 * a.length → (bitsOf c).getD j false = ((bitsOf a).getD j false ^^ (decide (at_ ≤ j) && mask.getLsbD (j - at_)))) :
    on 0#32 a = on 0#32 c ↔ mask = 0#32 := by
  obtain ⟨rest, hrest⟩ : ∃ rest, 8 * a.length = at_ + (32 + rest) := ⟨8 * a.length - (at_ + 32), by omega⟩
  let D : List Bool := List.replicate at_ false ++ ((List.range 32).map mask.getLsbD ++ List.replicate rest false)
  have hD : D.length = 8 * a.length := by simp [D, hrest]
  have hDg : ∀ j, D.getD j false = (decide (at_ ≤ j) && mask.getLsbD (j - at_)) := by
    intro j
    simp only [D, List.getD_eq_getElem?_getD]
    by_cases h1 : j < at_
    · rw [List.getElem?_append_left (by simpa using h1), List.getElem?_replicate, decide_eq_false (by omega : ¬ at_ ≤ j)]
      simp [h1]
    · rw [List.getElem?_append_right (by simp; omega)]
      simp only [List.length_replicate]
      by_cases h2 : j - at_ < 32
      · rw [List.getElem?_append_left (by simpa using h2)]
        simp [h2]; omega
      · rw [List.getElem?_append_right (by simp; omega), List.getElem?_replicate, BitVec.getLsbD_of_ge _ _ (by omega)]
        split <;> simp
  have hc : bitsOf c = List.zipWith (· ^^ ·) (bitsOf a) D := by
    apply List.ext_getElem
    · rw [List.length_zipWith, length_bitsOf, length_bitsOf, hD, hl]; simp
    · intro j h1 h2
      rw [length_bitsOf, ← hl] at h1
      have := hb j h1
      rw [← hDg] at this
      rw [List.getElem_zipWith]
      simp only [List.getD_eq_getElem?_getD] at this
      rw [List.getElem?_eq_getElem (by rw [length_bitsOf]; omega), List.getElem?_eq_getElem (by rw [length_bitsOf]; omega), List.getElem?_eq_getElem (by rw [hD]; omega)] at this
      simpa using this
  have e := foldl_bitIn_xor (bitsOf a) D (~~~ 0#32) 0#32 (by rw [length_bitsOf, hD])
  rw [← hc, foldl_bitsOf, foldl_bitsOf] at e
  have hx : (~~~ 0#32 ^^^ 0#32) = ~~~ 0#32 := by decide
  rw [hx] at e
  have hDf : D.foldl bitIn 0#32 = turns rest (turns 32 mask) := by
    simp only [D, List.foldl_append]
    rw [foldl_false at_, turns_zero, foldl_word ((List.range 32).map mask.getLsbD) 0#32 mask, foldl_false]
    · simp
    · intro k hk; simp [hk]
    · simp
  unfold on
  rw [e, hDf]
  constructor
  · intro h
    have h1 : turns rest (turns 32 mask) = 0#32 := by
      have := congrArg (fun x => ~~~ x) h
      simp only [BitVec.not_not] at this
      generalize List.foldl step (~~~0#32) a = A at this
      generalize turns rest (turns 32 mask) = T at this
      have h2 : A ^^^ A = A ^^^ (A ^^^ T) := by rw [← this]
      rw [← BitVec.xor_assoc] at h2
      simpa using h2.symm
    exact turns_inj _ (turns_inj _ h1)
  · intro h
    subst h
    rw [turns_zero, turns_zero]; simp
end Go.Proofs.Ytlcnjinabfbglaa.Crc
namespace Go.Proofs.Ytlcnjinabfbglaa.Crc
theorem getD_bitsOf : ∀ (l : List UInt8) (j : Nat), (bitsOf l).getD j false = (l.getD (j / 8) 0).toNat.testBit (j % 8) := by
  intro l
  induction l with
  | nil => intro j; simp [bitsOf]
  | cons x l ih =>
    intro j
    show (bits8 x ++ bitsOf l).getD j false = _
    by_cases h : j < 8
    · rw [List.getD_eq_getElem?_getD, List.getElem?_append_left (by rw [length_bits8]; exact h)]
      have h1 : j / 8 = 0 := by omega
      have h2 : j % 8 = j := by omega
      rw [h1, h2]
      simp [bits8, h]
    · rw [List.getD_eq_getElem?_getD, List.getElem?_append_right (by rw [length_bits8]; omega), length_bits8, ← List.getD_eq_getElem?_getD, ih]
      have h1 : j / 8 = (j - 8) / 8 + 1 := by omega
      have h2 : j % 8 = (j - 8) % 8 := by omega
      rw [h1, h2]
      simp
/-- bit number k of a byte turned -/
def turnBit (x : UInt8) (k : Nat) : UInt8 := UInt8.ofNat (x.toNat ^^^ 2 ^ k)
theorem turnBit_nat (x : UInt8) (k : Nat) (h : k < 8) : (turnBit x k).toNat = x.toNat ^^^ 2 ^ k := by
  unfold turnBit
  have h1 : x.toNat ^^^ 2 ^ k < 2 ^ 8 := Nat.xor_lt_two_pow x.toNat_lt (Nat.pow_lt_pow_right (by omega) h)
  rw [UInt8.toNat_ofNat']
  exact Nat.mod_eq_of_lt h1
/-- the first i bits of a mask turned, from at_ on -/
def tb (l : List UInt8) (at_ : Nat) (mask : BitVec 32) : Nat → List UInt8
  | 0 => l
  | i + 1 => if mask.getLsbD i then (tb l at_ mask i).set ((at_ + i) / 8) (turnBit ((tb l at_ mask i).getD ((at_ + i) / 8) 0) ((at_ + i) % 8)) else tb l at_ mask i
theorem tb_len (l : List UInt8) (at_ : Nat) (mask : BitVec 32) (i : Nat) : (tb l at_ mask i).length = l.length := by
  induction i with
  | zero => rfl
  | succ i ih => unfold tb; split <;> simp [ih]
theorem tb_bits (l : List UInt8) (at_ : Nat) (mask : BitVec 32) (i : Nat) (h : at_ + i ≤ 8 * l.length) (j : Nat) :
    (bitsOf (tb l at_ mask i)).getD j false = ((bitsOf l).getD j false ^^ (decide (at_ ≤ j) && (decide (j < at_ + i) && mask.getLsbD (j - at_)))) := by
  induction i with
  | zero =>
    have : (decide (at_ ≤ j) && (decide (j < at_ + 0) && mask.getLsbD (j - at_))) = false := by
      by_cases h1 : at_ ≤ j
      · have : ¬ j < at_ := by omega
        simp [this]
      · simp [h1]
    rw [this]; simp [tb]
  | succ i ih =>
    have ih := ih (by omega)
    unfold tb
    by_cases hm : mask.getLsbD i = true
    · rw [if_pos hm, getD_bitsOf]
      rw [getD_bitsOf] at ih
      have hlt : (at_ + i) / 8 < (tb l at_ mask i).length := by rw [tb_len]; omega
      by_cases hq : j / 8 = (at_ + i) / 8
      · have hs : ((tb l at_ mask i).set ((at_ + i) / 8) (turnBit ((tb l at_ mask i).getD ((at_ + i) / 8) 0) ((at_ + i) % 8))).getD (j / 8) 0 = turnBit ((tb l at_ mask i).getD (j / 8) 0) ((at_ + i) % 8) := by
          rw [hq]; simp only [List.getD_eq_getElem?_getD]
          rw [List.getElem?_set_self hlt]; rfl
        rw [hs, turnBit_nat _ _ (by omega), Nat.testBit_xor, ih, Nat.testBit_two_pow]
        by_cases hj : j = at_ + i
        · subst hj
          have e1 : decide ((at_ + i) % 8 = (at_ + i) % 8) = true := by simp
          rw [show at_ + i - at_ = i from by omega, hm]
          simp
        · have e1 : decide ((at_ + i) % 8 = j % 8) = false := by rw [decide_eq_false_iff_not]; omega
          have e2 : decide (j < at_ + (i + 1)) = decide (j < at_ + i) := by rw [decide_eq_decide]; omega
          rw [e1, e2]; simp
      · have hs : ((tb l at_ mask i).set ((at_ + i) / 8) (turnBit ((tb l at_ mask i).getD ((at_ + i) / 8) 0) ((at_ + i) % 8))).getD (j / 8) 0 = (tb l at_ mask i).getD (j / 8) 0 := by
          simp only [List.getD_eq_getElem?_getD]
          rw [List.getElem?_set_ne (by omega)]
        rw [hs, ih]
        have e2 : decide (j < at_ + (i + 1)) = decide (j < at_ + i) := by
          rw [decide_eq_decide]
          have : j ≠ at_ + i := by rintro rfl; exact hq rfl
          omega
        rw [e2]
    · rw [if_neg hm, ih]
      congr 2
      by_cases hj : j = at_ + i
      · subst hj
        rw [show at_ + i - at_ = i from by omega]
        simp at hm
        simp [hm]
      · have e2 : decide (j < at_ + (i + 1)) = decide (j < at_ + i) := by rw [decide_eq_decide]; omega
        rw [e2]
/-- THE STAGE's THEOREM: with bits turned within 32 the check is another one, but if none is turned. -/
theorem tells (l : List UInt8) (at_ : Nat) (mask : BitVec 32) (h : at_ + 32 ≤ 8 * l.length) : on 0#32 l = on 0#32 (tb l at_ mask 32) ↔ mask = 0#32 := by
  refine burst l (tb l at_ mask 32) at_ mask (tb_len _ _ _ _).symm h fun j hj => ?_
  rw [tb_bits l at_ mask 32 h j]
  congr 2
  by_cases h1 : j < at_ + 32
  · simp [h1]
  · rw [BitVec.getLsbD_of_ge mask (j - at_) (by omega)]; simp
end Go.Proofs.Ytlcnjinabfbglaa.Crc
