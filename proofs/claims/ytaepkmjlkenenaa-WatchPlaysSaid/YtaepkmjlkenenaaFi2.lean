import Derived.Test.YtaepkmjlkenenaaFi
/- Plain: whether a rule is amiss. -/
namespace Go.Proofs.Ytaepkmjlkenenaa.Fi
structure Rule where
  kind : Int
  job : Int
  n : Int
def may (r : Rule) : Bool := decide (1 ≤ r.kind) && decide (r.kind ≤ 4) && decide (1 ≤ r.n) && decide (r.n ≤ 1099511627776)
theorem may_iff (r : Rule) : may r = true ↔ 1 ≤ r.kind ∧ r.kind ≤ 4 ∧ 1 ≤ r.n ∧ r.n ≤ 1099511627776 := by
  unfold may; simp only [Bool.and_eq_true, decide_eq_true_eq]; constructor <;> intro h <;> omega
def I64 (x : Int) : Prop := -9223372036854775808 ≤ x ∧ x ≤ 9223372036854775807
/-- is it so many seconds ahead? -/
def ahead (n now : Int) (f : Fire) : Bool := decide (f.at' < now) && decide (n ≤ now - f.at')
def late (n now : Int) (f : Fire) : Bool := decide (f.state = 1) && ahead n now f
def loud (n now : Int) (f : Fire) : Bool := decide (f.state = 3) && !ahead n now f
def own (job : Int) (l : List Fire) : List Fire := l.filter fun f => decide (f.job = job)
def amiss (r : Rule) (l : List Fire) (now : Int) : Bool :=
  if may r = true then
    (if r.kind = 1 then (own r.job l).any (late r.n now) else if r.kind = 2 then decide (r.n ≤ (sum (own r.job l)).streak) else if r.kind = 3 then decide (r.n ≤ (sum (own r.job l)).due + (sum (own r.job l)).run) else !(own r.job l).any (loud r.n now))
  else false
theorem own_snoc_in (job : Int) (l : List Fire) (f : Fire) (h : f.job = job) : own job (l ++ [f]) = own job l ++ [f] := by unfold own; simp [List.filter_append, h]
theorem own_snoc_out (job : Int) (l : List Fire) (f : Fire) (h : f.job ≠ job) : own job (l ++ [f]) = own job l := by unfold own; simp [List.filter_append, h]
theorem own_len (job : Int) (l : List Fire) : (own job l).length ≤ l.length := List.length_filter_le _ _
theorem any_snoc (p : Fire → Bool) (l : List Fire) (f : Fire) : (l ++ [f]).any p = (l.any p || p f) := by simp
end Go.Proofs.Ytaepkmjlkenenaa.Fi
