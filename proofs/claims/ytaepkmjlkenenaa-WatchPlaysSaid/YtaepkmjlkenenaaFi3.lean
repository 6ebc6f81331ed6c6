import Derived.Test.YtaepkmjlkenenaaFi2
/- Plain: what a look does: rules go on and off, alarms. -/
namespace Go.Proofs.Ytaepkmjlkenenaa.Fi
structure St where
  rule : Rule
  on : Bool
  since : Int
structure Alarm where
  rule : Int
  on : Bool
  at' : Int
def look1 (F : List Fire) (now : Int) (s : St) : St := if amiss s.rule F now = s.on then s else { s with on := amiss s.rule F now, since := now }
def ring (F : List Fire) (now : Int) (k : Nat) (s : St) : List Alarm := if amiss s.rule F now = s.on then [] else [⟨k, amiss s.rule F now, now⟩]
/-- the states behind a look -/
def look (F : List Fire) (now : Int) (l : List St) : List St := l.map (look1 F now)
/-- the alarms, from the k-th rule on -/
def rings (F : List Fire) (now : Int) : Nat → List St → List Alarm
  | _, [] => []
  | k, s :: l => ring F now k s ++ rings F now (k + 1) l
theorem rings_snoc (F : List Fire) (now : Int) : ∀ (l : List St) (k : Nat) (s : St), rings F now k (l ++ [s]) = rings F now k l ++ ring F now (k + l.length) s := by
  intro l
  induction l with
  | nil => intro k s; simp [rings]
  | cons x l ih => intro k s; simp only [List.cons_append, rings, ih, List.length_cons, List.append_assoc]; rw [show k + 1 + l.length = k + (l.length + 1) by omega]
theorem rings_len (F : List Fire) (now : Int) : ∀ (l : List St) (k : Nat), (rings F now k l).length ≤ l.length := by
  intro l
  induction l with
  | nil => intro k; simp [rings]
  | cons x l ih =>
    intro k
    have := ih (k + 1)
    unfold rings ring
    split <;> simp <;> omega
end Go.Proofs.Ytaepkmjlkenenaa.Fi
