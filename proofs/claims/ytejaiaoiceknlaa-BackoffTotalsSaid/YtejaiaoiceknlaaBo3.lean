import Derived.Test.YtejaiaoiceknlaaBo2
/- Plain: more of Cap, or Base, makes no full wait less; Seed is of no matter. -/
namespace Go.Proofs.Ytejaiaoiceknlaa.Bo
open Go.RowKit
theorem step_mono (p q : Plan) (hf : q.factor = p.factor) (hf0 : 100 ≤ p.factor) (hc : p.cap ≤ q.cap) (w v : Int) (hw : 1 ≤ w) (hv : w ≤ v) : step p w ≤ step q v := by
  have h1 : w * p.factor ≤ v * p.factor := Int.mul_le_mul_of_nonneg_right hv (by omega)
  unfold step grow
  rw [hf]
  generalize w * p.factor = a at *
  generalize v * p.factor = b at *
  rw [if_neg (show ¬ w = 0 by omega), if_neg (show ¬ v = 0 by omega)]
  by_cases h : 100 < p.factor
  · rw [if_pos h, if_pos h]; omega
  · rw [if_neg h, if_neg h]; omega
theorem full_mono (p q : Plan) (hp : may p = true) (hq : may q = true) (hf : q.factor = p.factor) (hc : p.cap ≤ q.cap) (hb : p.base ≤ q.base) (k : Nat) : full p (k + 1) ≤ full q (k + 1) := by
  have hm := (may_iff p).1 hp
  induction k with
  | zero => rw [full_one p hp, full_one q hq]; exact hb
  | succ k ih => exact step_mono p q hf (by omega) hc _ _ (full_pos p hp k) ih
theorem full_seed (p : Plan) (s : Int) (k : Nat) : full { p with seed := s } k = full p k := by
  induction k with
  | zero => rfl
  | succ k ih => unfold full; rw [ih]; rfl
theorem may_seed (p : Plan) (s : Int) : may { p with seed := s } = may p := rfl
end Go.Proofs.Ytejaiaoiceknlaa.Bo
