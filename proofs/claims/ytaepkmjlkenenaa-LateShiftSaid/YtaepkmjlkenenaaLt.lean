/- Plain: moments, late or not; what is due and what is skipped. -/
namespace Go.Proofs.Ytaepkmjlkenenaa.Lt
/-- moments rise, behind a moment, up to another one -/
def rises : List Int → Int → Int → Bool
  | [], _, _ => true
  | t :: r, f, to => if t ≤ f ∨ to < t then false else rises r t to
structure Lot where
  pol : Int
  grace : Int
  now : Int
  due : List Int
  come : List Int
  room : Int
def head (l : Lot) : Bool := decide (l.pol < 1) || decide (3 < l.pol) || decide (l.grace < 0) || decide (l.now < 0) || decide (13569465600 ≤ l.now) || decide (64 < l.due.length) || decide (64 < l.come.length) || decide (64 < l.room) || decide (l.room < l.due.length)
def may (l : Lot) : Bool := if head l then false else rises (l.due ++ l.come) (-1) l.now
theorem may_iff (l : Lot) : may l = true ↔ (1 ≤ l.pol ∧ l.pol ≤ 3 ∧ 0 ≤ l.grace ∧ 0 ≤ l.now ∧ l.now < 13569465600 ∧ l.due.length ≤ 64 ∧ l.come.length ≤ 64 ∧ l.room ≤ 64 ∧ (l.due.length : Int) ≤ l.room) ∧ rises (l.due ++ l.come) (-1) l.now = true := by
  unfold may head
  split
  · rename_i h
    simp only [Bool.or_eq_true, decide_eq_true_eq] at h
    constructor
    · intro h2; cases h2
    · intro ⟨h2, _⟩; omega
  · rename_i h
    simp only [Bool.or_eq_true, decide_eq_true_eq] at h
    constructor
    · intro h2; exact ⟨by omega, h2⟩
    · exact fun h2 => h2.2
/-- is a moment too late? -/
def late (l : Lot) (t : Int) : Bool := decide (l.grace < l.now - t)
/-- the first one that is not -/
def ontime (l : Lot) : List Int → Nat
  | [] => 0
  | t :: r => if late l t then ontime l r + 1 else 0
theorem ontime_le (l : Lot) (c : List Int) : ontime l c ≤ c.length := by
  induction c with
  | nil => simp [ontime]
  | cons t r ih => unfold ontime; split <;> simp; omega
/-- how many are skipped, of all (under PlLatest) or of those that come -/
def cutN (l : Lot) : Nat := if l.pol = 3 then (if l.room ≤ 0 then (l.due ++ l.come).length else (l.due ++ l.come).length - 1)
  else max (if l.pol = 1 then ontime l l.come else 0) ((l.due.length : Int) + (l.come.length : Int) - l.room).toNat
def dueOf (l : Lot) : List Int := if l.pol = 3 then (l.due ++ l.come).drop (cutN l) else l.due ++ l.come.drop (cutN l)
def skipOf (l : Lot) : List Int := if l.pol = 3 then (l.due ++ l.come).take (cutN l) else l.come.take (cutN l)
/-- what Judge tells: D and C are due, S is skipped -/
structure Told (l : Lot) (D S C : List Int) : Prop where
  all : l.due ++ l.come = D ++ S ++ C
  due : dueOf l = D ++ C
  skipped : skipOf l = S
theorem told (l : Lot) : ∃ D S C, Told l D S C := by
  by_cases h : l.pol = 3
  · exact ⟨[], (l.due ++ l.come).take (cutN l), (l.due ++ l.come).drop (cutN l), by rw [List.nil_append, List.take_append_drop], by simp [dueOf, h], by simp [skipOf, h]⟩
  · exact ⟨l.due, l.come.take (cutN l), l.come.drop (cutN l), by rw [List.append_assoc, List.take_append_drop], by simp [dueOf, h], by simp [skipOf, h]⟩
theorem due_len (l : Lot) : (dueOf l).length = if l.pol = 3 then l.due.length + l.come.length - cutN l else l.due.length + (l.come.length - cutN l) := by
  unfold dueOf; split <;> simp
theorem sum_len (l : Lot) : (dueOf l).length + (skipOf l).length = l.due.length + l.come.length := by
  obtain ⟨D, S, C, h1, h2, h3⟩ := told l
  have := congrArg List.length h1
  rw [h2, h3]
  simp at this ⊢
  omega
theorem cut_le (l : Lot) (h : may l = true) : cutN l ≤ l.due.length + l.come.length ∧ (l.pol ≠ 3 → cutN l ≤ l.come.length) := by
  obtain ⟨hm, -⟩ := (may_iff l).1 h
  have := ontime_le l l.come
  unfold cutN
  split
  · split <;> simp <;> omega
  · split <;> omega
theorem due_room (l : Lot) (h : may l = true) : ((dueOf l).length : Int) ≤ l.room := by
  obtain ⟨hm, -⟩ := (may_iff l).1 h
  rw [due_len]
  unfold cutN
  split
  · split <;> simp <;> omega
  · omega
theorem skip_none (l : Lot) (h2 : l.pol = 2) (hn : (l.due.length : Int) + l.come.length ≤ l.room) : skipOf l = [] := by
  have hc : cutN l = 0 := by
    unfold cutN
    rw [if_neg (by omega), if_neg (by omega)]
    omega
  unfold skipOf
  rw [if_neg (by omega), hc, List.take_zero]
theorem due_one (l : Lot) (h2 : l.pol = 3) : (dueOf l).length ≤ 1 := by
  rw [due_len, if_pos h2]
  unfold cutN
  rw [if_pos h2]
  split <;> simp <;> omega
theorem ontime_lt (l : Lot) : ∀ (c : List Int) (t : Int), c.getLast? = some t → late l t = false → ontime l c < c.length := by
  intro c
  induction c with
  | nil => intro t h; simp at h
  | cons x r ih =>
    intro t h ht
    unfold ontime
    split
    · rename_i hx
      cases r with
      | nil =>
        simp at h
        subst h
        rw [hx] at ht
        cases ht
      | cons y r =>
        have h' : (y :: r).getLast? = some t := by rw [← h]; simp [List.getLast?_cons_cons]
        have := ih t h' ht
        simp at this ⊢
        omega
    · simp
/-- the last one, where there is room, and it is not too late -/
theorem due_last (l : Lot) (t : Int) (hc : l.come.getLast? = some t) (ht : late l t = false) (hr : (l.due.length : Int) < l.room) : (dueOf l).getLast? = some t ∧ 0 < (dueOf l).length := by
  have hcl : 0 < l.come.length := by
    cases hcc : l.come with
    | nil => rw [hcc] at hc; simp at hc
    | cons x r => simp
  have hol := ontime_lt l l.come t hc ht
  have hall : (l.due ++ l.come).getLast? = some t := by rw [List.getLast?_append, hc]; rfl
  unfold dueOf cutN
  split
  · rw [if_neg (by omega)]
    refine ⟨?_, by simp; omega⟩
    rw [List.getLast?_drop, if_neg (by simp; omega)]
    exact hall
  · have hi0 : (if l.pol = 1 then ontime l l.come else 0) ≤ ontime l l.come := by split <;> omega
    refine ⟨?_, by rw [List.length_append, List.length_drop]; omega⟩
    have hi : (if l.pol = 1 then ontime l l.come else 0) ≤ ontime l l.come := by split <;> omega
    rw [List.getLast?_append, List.getLast?_drop, if_neg (by omega), hc]
    rfl
def again (l : Lot) : Lot := { l with due := dueOf l, come := [] }
theorem again_due (l : Lot) (h : may l = true) : dueOf (again l) = dueOf l ∧ skipOf (again l) = [] := by
  obtain ⟨hm, -⟩ := (may_iff l).1 h
  have hr := due_room l h
  by_cases h3 : l.pol = 3
  · have h1 := due_one l h3
    have hc : cutN (again l) = 0 := by
      unfold cutN again
      simp only [h3, if_true, List.append_nil]
      split
      · rename_i hrr
        have : l.room ≤ 0 := hrr
        omega
      · omega
    unfold dueOf skipOf
    rw [hc]
    simp [again, h3]
    unfold dueOf; simp [h3]
  · have hc : cutN (again l) = 0 := by
      unfold cutN again
      simp only [h3, if_false]
      simp [ontime]
      omega
    constructor
    · conv => lhs; unfold dueOf
      rw [hc]
      simp [again, h3]
    · unfold skipOf
      rw [hc]
      simp
def Up : List Int → Prop := List.Pairwise (· < ·)
theorem rises_iff (to : Int) : ∀ (c : List Int) (f : Int), rises c f to = true ↔ (∀ t ∈ c, f < t ∧ t ≤ to) ∧ Up c := by
  intro c
  induction c with
  | nil => intro f; simp [rises, Up]
  | cons x r ih =>
    intro f
    unfold rises Up
    split
    · rename_i h
      constructor
      · intro h; cases h
      · intro ⟨h1, _⟩
        have := h1 x (by simp)
        omega
    · rename_i h
      rw [ih x, List.pairwise_cons]
      constructor
      · intro ⟨h1, h2⟩
        refine ⟨?_, fun t ht => (h1 t ht).1, h2⟩
        intro t ht
        rcases List.mem_cons.1 ht with rfl | ht
        · omega
        · have := h1 t ht; omega
      · intro ⟨h1, h2, h3⟩
        exact ⟨fun t ht => ⟨h2 t ht, (h1 t (by simp [ht])).2⟩, h3⟩
theorem again_may (l : Lot) (h : may l = true) : may (again l) = true := by
  obtain ⟨hm, hr⟩ := (may_iff l).1 h
  obtain ⟨D, S, C, h1, h2, h3⟩ := told l
  have hrm := due_room l h
  rw [may_iff]
  refine ⟨?_, ?_⟩
  · unfold again; simp only [List.length_nil]; omega
  · unfold again
    simp only [List.append_nil]
    rw [rises_iff] at hr ⊢
    rw [h1] at hr
    rw [h2]
    refine ⟨fun t ht => hr.1 t (by simp at ht ⊢; rcases ht with ht | ht <;> simp [ht]), ?_⟩
    have : (D ++ C).Sublist (D ++ S ++ C) := by
      rw [List.append_assoc]
      exact (List.Sublist.refl D).append (List.sublist_append_right S C)
    exact hr.2.sublist this
/-! later -/
def shift (l : Lot) (d : Int) : Lot := { l with now := l.now + d, due := l.due.map (· + d), come := l.come.map (· + d) }
theorem ontime_shift (l : Lot) (d : Int) (c : List Int) : ontime (shift l d) (c.map (· + d)) = ontime l c := by
  induction c with
  | nil => rfl
  | cons t r ih =>
    simp only [List.map_cons, ontime]
    rw [ih]
    have : late (shift l d) (t + d) = late l t := by
      unfold late shift; simp only []; congr 1; apply propext; constructor <;> intro h <;> omega
    rw [this]
theorem cut_3 (l : Lot) (h : l.pol = 3) : cutN l = if l.room ≤ 0 then l.due.length + l.come.length else l.due.length + l.come.length - 1 := by simp [cutN, h]
theorem cut_1 (l : Lot) (h : l.pol = 1) : cutN l = max (ontime l l.come) ((l.due.length : Int) + (l.come.length : Int) - l.room).toNat := by simp [cutN, h]
theorem cut_2 (l : Lot) (h : l.pol ≠ 3) (h1 : l.pol ≠ 1) : cutN l = ((l.due.length : Int) + (l.come.length : Int) - l.room).toNat := by simp [cutN, h, h1]
theorem due_3 (l : Lot) (h : l.pol = 3) : dueOf l = (l.due ++ l.come).drop (cutN l) := by simp [dueOf, h]
theorem due_n3 (l : Lot) (h : l.pol ≠ 3) : dueOf l = l.due ++ l.come.drop (cutN l) := by simp [dueOf, h]
theorem skip_3 (l : Lot) (h : l.pol = 3) : skipOf l = (l.due ++ l.come).take (cutN l) := by simp [skipOf, h]
theorem skip_n3 (l : Lot) (h : l.pol ≠ 3) : skipOf l = l.come.take (cutN l) := by simp [skipOf, h]
theorem cut_shift (l : Lot) (d : Int) : cutN (shift l d) = cutN l := by
  by_cases h : l.pol = 3
  · rw [cut_3 l h, cut_3 (shift l d) h]; simp [shift]
  · by_cases h1 : l.pol = 1
    · rw [cut_1 l h1, cut_1 (shift l d) h1, show (shift l d).come = l.come.map (· + d) from rfl, ontime_shift]
      simp [shift]
    · rw [cut_2 l h h1, cut_2 (shift l d) h h1]; simp [shift]
theorem shift_due (l : Lot) (d : Int) : dueOf (shift l d) = (dueOf l).map (· + d) ∧ skipOf (shift l d) = (skipOf l).map (· + d) := by
  by_cases h : l.pol = 3
  · rw [due_3 l h, due_3 (shift l d) h, skip_3 l h, skip_3 (shift l d) h, cut_shift]
    simp only [shift]
    rw [← List.map_append]
    exact ⟨by rw [List.map_drop], by rw [List.map_take]⟩
  · rw [due_n3 l h, due_n3 (shift l d) h, skip_n3 l h, skip_n3 (shift l d) h, cut_shift]
    simp only [shift]
    exact ⟨by rw [List.map_append, List.map_drop], by rw [List.map_take]⟩
theorem shift_may (l : Lot) (d : Int) (h : may l = true) (h0 : 0 ≤ d) (h2 : l.now + d < 13569465600) : may (shift l d) = true := by
  obtain ⟨hm, hr⟩ := (may_iff l).1 h
  rw [may_iff]
  refine ⟨by simp [shift]; omega, ?_⟩
  rw [rises_iff] at hr ⊢
  simp only [shift]
  rw [← List.map_append]
  refine ⟨fun t ht => ?_, ?_⟩
  · obtain ⟨x, hx, rfl⟩ := List.mem_map.1 ht
    have := hr.1 x hx
    omega
  · exact List.Pairwise.map _ (fun a b h => by omega) hr.2
def wide (l : Lot) (g r : Int) : Lot := { l with grace := l.grace + g, room := l.room + r }
theorem ontime_wide (l : Lot) (g r : Int) (hg : 0 ≤ g) (c : List Int) : ontime (wide l g r) c ≤ ontime l c := by
  induction c with
  | nil => exact Nat.le_refl _
  | cons t rs ih =>
    unfold ontime
    have : late (wide l g r) t = true → late l t = true := by
      unfold late wide; simp only [decide_eq_true_eq]; omega
    split
    · rename_i h; rw [if_pos (this h)]; omega
    · omega
theorem wide_due (l : Lot) (g r : Int) (h : may l = true) (hg : 0 ≤ g) (hr : 0 ≤ r) : (dueOf l).length ≤ (dueOf (wide l g r)).length := by
  obtain ⟨hm, -⟩ := (may_iff l).1 h
  have ho := ontime_wide l g r hg l.come
  have e1 : (wide l g r).due = l.due := rfl
  have e2 : (wide l g r).come = l.come := rfl
  have e3 : (wide l g r).room = l.room + r := rfl
  by_cases h3 : l.pol = 3
  · rw [due_3 l h3, due_3 (wide l g r) h3, cut_3 l h3, cut_3 (wide l g r) h3, e1, e2, e3]
    simp only [List.length_drop, List.length_append]
    split <;> split <;> omega
  · rw [due_n3 l h3, due_n3 (wide l g r) h3]
    by_cases h1 : l.pol = 1
    · rw [cut_1 l h1, cut_1 (wide l g r) h1, e1, e2, e3]
      simp only [List.length_drop, List.length_append]
      omega
    · rw [cut_2 l h3 h1, cut_2 (wide l g r) h3 h1, e1, e2, e3]
      simp only [List.length_drop, List.length_append]
      omega
theorem wide_may (l : Lot) (g r : Int) (h : may l = true) (hg : 0 ≤ g) (hr : 0 ≤ r) (h64 : l.room + r ≤ 64) : may (wide l g r) = true := by
  obtain ⟨hm, hri⟩ := (may_iff l).1 h
  rw [may_iff]
  exact ⟨by simp [wide]; omega, hri⟩
end Go.Proofs.Ytaepkmjlkenenaa.Lt
