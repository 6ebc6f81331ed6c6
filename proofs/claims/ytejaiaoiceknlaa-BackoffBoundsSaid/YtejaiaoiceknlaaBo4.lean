import Derived.Test.YtejaiaoiceknlaaBo2
/- Plain: full waits rise up to Cap, and stay there. -/
namespace Go.Proofs.Ytejaiaoiceknlaa.Bo
open Go.RowKit
theorem full_stay (p : Plan) (h : may p = true) (hf : 100 < p.factor) (k : Nat) : full p k < full p (k + 1) ∨ full p (k + 1) = p.cap := by
  have hm := (may_iff p).1 h
  have hb := full_bd p h k
  show full p k < step p (full p k) ∨ step p (full p k) = p.cap
  generalize full p k = w at *
  unfold step grow
  generalize w * p.factor = m at *
  rw [if_pos hf]
  split <;> omega
theorem full_flat (p : Plan) (h : may p = true) (hf : p.factor = 100) (k : Nat) : full p (k + 1) = p.base := by
  have hm := (may_iff p).1 h
  induction k with
  | zero => exact full_one p h
  | succ k ih =>
    show step p (full p (k + 1)) = p.base
    rw [ih]
    unfold step grow
    rw [hf, if_neg (by omega), if_neg (by omega)]
    omega
theorem full_far (p : Plan) (h : may p = true) (hf : 100 < p.factor) (k : Nat) : (k : Int) ≤ full p k ∨ full p k = p.cap := by
  induction k with
  | zero => left; unfold full; omega
  | succ k ih =>
    have h1 := full_stay p h hf k
    have h2 := full_up p h k
    have h3 := (full_bd p h (k + 1)).2
    omega
theorem wait_same (p : Plan) (hs : p.spread = 0) (key n f : Int) (hf : 1 ≤ f) : wait p key n f = f := by
  unfold wait
  rw [hs, Int.mul_zero, Int.zero_ediv, Int.zero_add, Int.emod_one]
  omega
end Go.Proofs.Ytejaiaoiceknlaa.Bo
