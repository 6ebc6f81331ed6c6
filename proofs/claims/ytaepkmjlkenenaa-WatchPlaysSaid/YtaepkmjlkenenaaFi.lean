/- Plain: firings, what is amiss. -/
namespace Go.Proofs.Ytaepkmjlkenenaa.Fi
structure Fire where
  job : Int
  at' : Int
  state : Int
  att : Int
  tok : Int
  wk : Int
  til : Int
/-- due, run, streak -/
structure Sum where
  due : Int
  run : Int
  streak : Int
def step (s : Sum) (f : Fire) : Sum :=
  if f.state = 1 then { s with due := s.due + 1 } else if f.state = 2 then { s with run := s.run + 1 } else if f.state = 3 then { s with streak := 0 } else if f.state = 4 then { s with streak := s.streak + 1 } else s
def sum (l : List Fire) : Sum := l.foldl step ⟨0, 0, 0⟩
theorem sum_snoc (l : List Fire) (f : Fire) : sum (l ++ [f]) = step (sum l) f := by simp [sum]
theorem take_snoc (l : List Fire) (k : Nat) (h : k < l.length) : l.take (k + 1) = l.take k ++ [l[k]] := List.take_succ_eq_append_getElem h
theorem rev_ind {α : Type} {P : List α → Prop} (h0 : P []) (h1 : ∀ l a, P l → P (l ++ [a])) (l : List α) : P l := by
  rw [← List.reverse_reverse l]
  induction l.reverse with
  | nil => exact h0
  | cons a m ih => rw [List.reverse_cons]; exact h1 _ _ ih
theorem sum_bd (l : List Fire) : 0 ≤ (sum l).due ∧ (sum l).due ≤ l.length ∧ 0 ≤ (sum l).run ∧ (sum l).run ≤ l.length ∧ 0 ≤ (sum l).streak ∧ (sum l).streak ≤ l.length := by
  refine rev_ind (P := fun l => 0 ≤ (sum l).due ∧ (sum l).due ≤ l.length ∧ 0 ≤ (sum l).run ∧ (sum l).run ≤ l.length ∧ 0 ≤ (sum l).streak ∧ (sum l).streak ≤ l.length) (by simp [sum]) ?_ l
  intro l f ih
  rw [sum_snoc, List.length_append]
  generalize sum l = s at *
  unfold step
  simp only [List.length_singleton]
  split
  · simp only []; omega
  split
  · simp only []; omega
  split
  · simp only []; omega
  split
  · simp only []; omega
  · omega
end Go.Proofs.Ytaepkmjlkenenaa.Fi
