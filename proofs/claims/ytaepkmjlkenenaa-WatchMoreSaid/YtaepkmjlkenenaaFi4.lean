import Derived.Test.YtaepkmjlkenenaaFi2
/- Plain: what more of firings, or less of a number, makes of a rule's answer. -/
namespace Go.Proofs.Ytaepkmjlkenenaa.Fi
/-- a firing of the rule's own job, now -/
def at1 (r : Rule) (now s : Int) : Fire := ⟨r.job, now, s, 0, 0, 0, 0⟩
theorem ahead_less {n m now : Int} {f : Fire} (h : m ≤ n) (ha : ahead n now f = true) : ahead m now f = true := by
  unfold ahead at *; simp only [Bool.and_eq_true, decide_eq_true_eq] at *; omega
theorem ahead_now (n now : Int) (f : Fire) (h : f.at' = now) : ahead n now f = false := by
  unfold ahead; simp [h]
theorem any_mono {p q : Fire → Bool} (h : ∀ f, p f = true → q f = true) (l : List Fire) (hp : l.any p = true) : l.any q = true := by
  rw [List.any_eq_true] at *
  obtain ⟨x, hx, hpx⟩ := hp
  exact ⟨x, hx, h x hpx⟩
theorem amiss_less (r : Rule) (m : Int) (l : List Fire) (now : Int) (h1 : 1 ≤ m) (h2 : m ≤ r.n) (h : amiss r l now = true) : amiss ⟨r.kind, r.job, m⟩ l now = true := by
  unfold amiss at *
  by_cases hm : may r = true
  · rw [if_pos hm] at h
    have hm' : may ⟨r.kind, r.job, m⟩ = true := by
      rw [may_iff] at *
      simp only
      omega
    rw [if_pos hm']
    simp only at *
    split at h
    · rename_i hk; rw [if_pos hk]
      exact any_mono (fun f hf => by unfold late at *; simp only [Bool.and_eq_true] at *; exact ⟨hf.1, ahead_less h2 hf.2⟩) _ h
    · rename_i hk; rw [if_neg hk]
      split at h
      · rename_i hk; rw [if_pos hk]; simp only [decide_eq_true_eq] at *; omega
      · rename_i hk; rw [if_neg hk]
        split at h
        · rename_i hk; rw [if_pos hk]; simp only [decide_eq_true_eq] at *; omega
        · rename_i hk; rw [if_neg hk]
          simp only [Bool.not_eq_true'] at *
          cases hq : (own r.job l).any (loud m now) with
          | false => rfl
          | true =>
            have := any_mono (q := loud r.n now) (fun f hf => by
              unfold loud at *
              simp only [Bool.and_eq_true, Bool.not_eq_true'] at *
              refine ⟨hf.1, ?_⟩
              cases ha : ahead r.n now f with
              | false => rfl
              | true => rw [ahead_less h2 ha] at hf; exact absurd hf.2 (by simp)) _ hq
            rw [h] at this
            cases this
  · rw [if_neg hm] at h; cases h
theorem amiss_other (r : Rule) (l : List Fire) (f : Fire) (now : Int) (h : f.job ≠ r.job) : amiss r (l ++ [f]) now = amiss r l now := by
  unfold amiss; rw [own_snoc_out _ _ _ h]
theorem late_at1 (r : Rule) (now s : Int) : late r.n now (at1 r now s) = false := by
  have := ahead_now r.n now (at1 r now s) rfl
  unfold late; rw [this]; simp
theorem loud_at1 (r : Rule) (now s : Int) : loud r.n now (at1 r now s) = decide (s = 3) := by
  have := ahead_now r.n now (at1 r now s) rfl
  show (decide (s = 3) && !ahead r.n now (at1 r now s)) = _
  rw [this]; simp
theorem own_at1 (r : Rule) (l : List Fire) (now s : Int) : own r.job (l ++ [at1 r now s]) = own r.job l ++ [at1 r now s] := own_snoc_in _ _ _ rfl
theorem more_late (r : Rule) (l : List Fire) (now s : Int) (hk : r.kind = 1) : amiss r (l ++ [at1 r now s]) now = amiss r l now := by
  unfold amiss; rw [own_at1]; simp [hk, late_at1]
theorem step_at (x : Sum) (r : Rule) (now s : Int) : step x (at1 r now s) = step x ⟨0, 0, s, 0, 0, 0, 0⟩ := rfl
theorem more_fails (r : Rule) (l : List Fire) (now s : Int) (hk : r.kind = 2) (hs : s = 1 ∨ s = 2) : amiss r (l ++ [at1 r now s]) now = amiss r l now := by
  have : (step (sum (own r.job l)) (at1 r now s)).streak = (sum (own r.job l)).streak := by
    rcases hs with rfl | rfl <;> simp [step, at1]
  unfold amiss; rw [own_at1, sum_snoc, this]; simp [hk]
theorem done_fails (r : Rule) (l : List Fire) (now : Int) (hk : r.kind = 2) : amiss r (l ++ [at1 r now 3]) now = false := by
  have : (step (sum (own r.job l)) (at1 r now 3)).streak = 0 := by simp [step, at1]
  unfold amiss; rw [own_at1, sum_snoc, this]
  by_cases hm : may r = true
  · have := (may_iff r).1 hm
    rw [if_pos hm]; simp [hk]; omega
  · rw [if_neg hm]
theorem more_quiet (r : Rule) (l : List Fire) (now s : Int) (hk : r.kind = 4) (hs : s = 1 ∨ s = 2) : amiss r (l ++ [at1 r now s]) now = amiss r l now := by
  have : (own r.job l ++ [at1 r now s]).any (loud r.n now) = (own r.job l).any (loud r.n now) := by
    rw [any_snoc, loud_at1]; rcases hs with rfl | rfl <;> simp
  unfold amiss; rw [own_at1, this]; simp [hk]
theorem done_quiet (r : Rule) (l : List Fire) (now : Int) (hk : r.kind = 4) : amiss r (l ++ [at1 r now 3]) now = false := by
  have : (own r.job l ++ [at1 r now 3]).any (loud r.n now) = true := by
    rw [any_snoc, loud_at1]; simp
  unfold amiss; rw [own_at1, this]; simp [hk]
theorem done_open (r : Rule) (l : List Fire) (now : Int) (hk : r.kind = 3) : amiss r (l ++ [at1 r now 3]) now = amiss r l now := by
  have h1 : (step (sum (own r.job l)) (at1 r now 3)).due = (sum (own r.job l)).due := by simp [step, at1]
  have h2 : (step (sum (own r.job l)) (at1 r now 3)).run = (sum (own r.job l)).run := by simp [step, at1]
  unfold amiss; rw [own_at1, sum_snoc, h1, h2]; simp [hk]
theorem more_open (r : Rule) (l : List Fire) (now s : Int) (hk : r.kind = 3) (hs : s = 1 ∨ s = 2) (h : amiss r l now = true) : amiss r (l ++ [at1 r now s]) now = true := by
  have h1 : (step (sum (own r.job l)) (at1 r now s)).due + (step (sum (own r.job l)) (at1 r now s)).run = (sum (own r.job l)).due + (sum (own r.job l)).run + 1 := by
    rcases hs with rfl | rfl <;> simp [step, at1] <;> omega
  unfold amiss at *; rw [own_at1, sum_snoc, h1]
  by_cases hm : may r = true
  · rw [if_pos hm] at *
    simp [hk] at *
    omega
  · rw [if_neg hm] at h; cases h
end Go.Proofs.Ytaepkmjlkenenaa.Fi
