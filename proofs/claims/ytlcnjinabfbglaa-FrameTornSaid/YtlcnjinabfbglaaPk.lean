/- Plain: numbers as bytes, seven bits a byte, the lowest first. -/
namespace Go.Proofs.Ytlcnjinabfbglaa.Pk
/-- n as bytes, f bytes at most -/
def putF : Nat → Nat → List UInt8
  | 0, _ => []
  | f + 1, n => if n < 128 then [UInt8.ofNat n] else UInt8.ofNat (n % 128 + 128) :: putF f (n / 128)
def put (n : Nat) : List UInt8 := putF 10 n
/-- whole numbers: by turns -/
def zig (m : Int) : Nat := if 0 ≤ m then (2 * m).toNat else (-2 * m - 1).toNat
theorem putF_small (f n : Nat) (h : n < 128) : putF (f + 1) n = [UInt8.ofNat n] := by simp [putF, h]
theorem putF_big (f n : Nat) (h : 128 ≤ n) : putF (f + 1) n = UInt8.ofNat (n % 128 + 128) :: putF f (n / 128) := by
  simp [putF, show ¬ n < 128 by omega]
theorem putF_len (f : Nat) : ∀ n, (putF f n).length ≤ f := by
  induction f with
  | zero => intro n; simp [putF]
  | succ f ih =>
    intro n
    unfold putF
    split
    · simp
    · have := ih (n / 128); simp; omega
theorem put_len (n : Nat) : (put n).length ≤ 10 := putF_len 10 n
theorem putF_pos (f n : Nat) : 0 < (putF (f + 1) n).length := by
  unfold putF; split <;> simp
theorem zig_lt (m : Int) (h1 : -9223372036854775808 ≤ m) (h2 : m ≤ 9223372036854775807) : zig m < 18446744073709551616 := by
  unfold zig; split <;> omega
/-- a text as bytes -/
def putText (s : List UInt8) : List UInt8 := put s.length ++ s
/-- bytes as a number: what is left, how many bytes are done, what they are -/
def tkF : List UInt8 → Nat → Nat → Option (Nat × Nat)
  | [], _, _ => none
  | x :: r, i, n => if (i = 9 ∧ 1 < x.toNat) ∨ (0 < i ∧ x.toNat = 0) then none
    else if x.toNat < 128 then some (n + x.toNat % 128 * 2 ^ (7 * i), i + 1) else tkF r (i + 1) (n + x.toNat % 128 * 2 ^ (7 * i))
/-- the number at a place, and the place behind it -/
def take (l : List UInt8) (at_ : Nat) : Option (Nat × Nat) := (tkF (l.drop at_) 0 0).map fun p => (p.1, at_ + p.2)
end Go.Proofs.Ytlcnjinabfbglaa.Pk
