/- Plain: plans, full waits, waits, when each attempt is. -/
import Derived.WalkKit
import Derived.OpenShut
namespace Go.Proofs.Ytejaiaoiceknlaa.Bo
open Go.RowKit
structure Plan where
  base : Int
  cap : Int
  factor : Int
  spread : Int
  seed : Int
def may (p : Plan) : Bool := decide (1 ≤ p.base) && decide (p.base ≤ p.cap) && decide (p.cap ≤ 604800) && decide (100 ≤ p.factor) && decide (p.factor ≤ 1000) && decide (0 ≤ p.spread) && decide (p.spread ≤ 100)
theorem may_iff (p : Plan) : may p = true ↔ 1 ≤ p.base ∧ p.base ≤ p.cap ∧ p.cap ≤ 604800 ∧ 100 ≤ p.factor ∧ p.factor ≤ 1000 ∧ 0 ≤ p.spread ∧ p.spread ≤ 100 := by
  unfold may; simp only [Bool.and_eq_true, decide_eq_true_eq]; constructor <;> intro h <;> omega
/-- the next full wait -/
def grow (p : Plan) (w : Int) : Int := if w = 0 then p.base else if 100 < p.factor then max (w * p.factor / 100) (w + 1) else w * p.factor / 100
def step (p : Plan) (w : Int) : Int := min (grow p w) p.cap
/-- full waits; 0: none yet -/
def full (p : Plan) : Nat → Int
  | 0 => 0
  | k + 1 => step p (full p k)
theorem mul_bd (w f : Int) (hw : 0 ≤ w) (hf : 100 ≤ f) (hf2 : f ≤ 1000) : w * 100 ≤ w * f ∧ w * f ≤ w * 1000 :=
  ⟨Int.mul_le_mul_of_nonneg_left hf hw, Int.mul_le_mul_of_nonneg_left hf2 hw⟩
theorem step_bd (p : Plan) (h : may p = true) (w : Int) (hw : 0 ≤ w) : 1 ≤ step p w ∧ step p w ≤ p.cap ∧ (w ≤ p.cap → w ≤ step p w) := by
  have hm := (may_iff p).1 h
  have hb := mul_bd w p.factor hw (by omega) (by omega)
  unfold step grow
  generalize w * p.factor = m at *
  split
  · omega
  · split <;> omega
theorem full_bd (p : Plan) (h : may p = true) (k : Nat) : 0 ≤ full p k ∧ full p k ≤ p.cap := by
  have hm := (may_iff p).1 h
  cases k with
  | zero => unfold full; omega
  | succ k =>
    have : 0 ≤ full p k := by
      induction k with
      | zero => unfold full; omega
      | succ k ih => have := step_bd p h _ ih; unfold full; omega
    have := step_bd p h _ this
    unfold full; omega
theorem full_pos (p : Plan) (h : may p = true) (k : Nat) : 1 ≤ full p (k + 1) := (step_bd p h _ (full_bd p h k).1).1
theorem full_up (p : Plan) (h : may p = true) (k : Nat) : full p k ≤ full p (k + 1) := (step_bd p h _ (full_bd p h k).1).2.2 (full_bd p h k).2
theorem full_one (p : Plan) (h : may p = true) : full p 1 = p.base := by
  have hm := (may_iff p).1 h
  unfold full full step grow
  simp
  omega
/-- the document's form -/
theorem full_doc (p : Plan) (h : may p = true) (k : Nat) : full p (k + 2) = (let w := full p (k + 1); let next := if 100 < p.factor ∧ w * p.factor / 100 ≤ w then w + 1 else w * p.factor / 100; if p.cap < next then p.cap else next) := by
  have hm := (may_iff p).1 h
  have hw := full_pos p h k
  show step p (full p (k + 1)) = _
  generalize full p (k + 1) = w at *
  have hb := mul_bd w p.factor (by omega) (by omega) (by omega)
  unfold step grow
  simp only []
  generalize w * p.factor = m at *
  rw [if_neg (by omega)]
  split <;> split <;> split <;> omega
/-- what is drawn, mixed -/
def U (x : Int) : Prop := 0 ≤ x ∧ x < 18446744073709551616
def mix (x : Int) : Int := IntKind.u64.wrap (bits .xor .u64 x (x / 4294967296) * 15241094284759029579)
def last (x : Int) : Int := bits .xor .u64 x (x / 536870912)
def first (s k n : Int) : Int := bits .xor .u64 (bits .xor .u64 s (IntKind.u64.wrap (k * 11400714819323198485))) (IntKind.u64.wrap (IntKind.u64.wrap n * 13787848793156543929))
def mixes : Nat → Int → Int
  | 0, x => x
  | k + 1, x => mix (mixes k x)
theorem u_wf {z : Int} (h : (Lit.int .u64 z).wf = true) : U z := by have := bounds_u64 h; unfold U; omega
theorem u_mix (x : Int) : U (mix x) := u_wf (wf_wrap _ _)
theorem u_last (x : Int) : U (last x) := u_wf (wf_bits _ _ _ _)
theorem u_first (s k n : Int) : U (first s k n) := u_wf (wf_bits _ _ _ _)
theorem u_mixes (k : Nat) (x : Int) (h : U x) : U (mixes k x) := by cases k with | zero => exact h | succ k => exact u_mix _
def drawn (p : Plan) (k n : Int) : Int := last (mix (mix (first p.seed k n)))
theorem u_drawn (p : Plan) (k n : Int) : U (drawn p k n) := u_last _
/-- a wait, of a full one -/
def wait (p : Plan) (key n : Int) (f : Int) : Int := max (f - drawn p key n % (f * p.spread / 100 + 1)) 1
/-- when an attempt is -/
def at' (p : Plan) (key : Int) : Nat → Int
  | 0 => 0
  | k + 1 => at' p key k + wait p key (k + 1 : Nat) (full p (k + 1))
end Go.Proofs.Ytejaiaoiceknlaa.Bo
