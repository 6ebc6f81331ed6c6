/- Plain: which alarms go on and off at a look, in order; which rules are on. -/
import Derived.Test.YtaepkmjlkenenaaF10
namespace Go.Proofs.Ytaepkmjlkenenaa

theorem look1_on (F : List Fi.Fire) (now : Int) (s : Fi.St) : (Fi.look1 F now s).on = Fi.amiss s.rule F now := by
  unfold Fi.look1
  split
  · rename_i h; exact h.symm
  · rfl
theorem look1_rule (F : List Fi.Fire) (now : Int) (s : Fi.St) : (Fi.look1 F now s).rule = s.rule := by
  unfold Fi.look1
  split <;> rfl
/-- looked at again at the same: as it was, no alarm -/
theorem look1_again (F : List Fi.Fire) (now : Int) (s : Fi.St) : Fi.look1 F now (Fi.look1 F now s) = Fi.look1 F now s := by
  have h1 := look1_on F now s
  have h2 := look1_rule F now s
  generalize Fi.look1 F now s = x at *
  unfold Fi.look1
  rw [if_pos (by rw [h2, h1])]
theorem look_again (F : List Fi.Fire) (now : Int) (l : List Fi.St) : Fi.look F now (Fi.look F now l) = Fi.look F now l := by
  simp [Fi.look, look1_again]
theorem rings_again (F : List Fi.Fire) (now : Int) : ∀ (l : List Fi.St) (k : Nat), Fi.rings F now k (Fi.look F now l) = []
  | [], _ => rfl
  | s :: l, k => by
    have ih := rings_again F now l (k + 1)
    unfold Fi.look at *
    rw [List.map_cons, Fi.rings, ih, List.append_nil]
    unfold Fi.ring
    rw [if_pos (by rw [look1_on, look1_rule])]
/-- the next alarm -/
theorem rings_next (F : List Fi.Fire) (now : Int) : ∀ (l : List Fi.St) (k : Nat), (Fi.rings F now k l = [] ∧ ∀ s ∈ l, Fi.amiss s.rule F now = s.on) ∨
    ∃ (m : Nat) (s : Fi.St), l[m]? = some s ∧ Fi.rings F now k l = ⟨((k + m : Nat) : Int), Fi.amiss s.rule F now, now⟩ :: Fi.rings F now (k + m + 1) (l.drop (m + 1)) ∧ s.on = !Fi.amiss s.rule F now ∧ ∀ x ∈ l.take m, Fi.amiss x.rule F now = x.on
  | [], _ => .inl ⟨rfl, by simp⟩
  | s :: l, k => by
    by_cases h : Fi.amiss s.rule F now = s.on
    · have h0 : Fi.ring F now k s = [] := by unfold Fi.ring; rw [if_pos h]
      rcases rings_next F now l (k + 1) with ⟨h1, h2⟩ | ⟨m, x, h1, h2, h3, h4⟩
      · left
        refine ⟨by rw [Fi.rings, h0, h1]; rfl, ?_⟩
        intro y hy
        rcases List.mem_cons.1 hy with rfl | hy
        · exact h
        · exact h2 y hy
      · right
        refine ⟨m + 1, x, by simpa using h1, ?_, h3, ?_⟩
        · rw [Fi.rings, h0, h2, List.nil_append, show k + 1 + m = k + (m + 1) by omega]; rfl
        · intro y hy
          rw [List.take_succ_cons] at hy
          rcases List.mem_cons.1 hy with rfl | hy
          · exact h
          · exact h4 y hy
    · right
      refine ⟨0, s, rfl, ?_, ?_, by simp⟩
      · rw [Fi.rings]; unfold Fi.ring; rw [if_neg h]; rfl
      · cases h1 : Fi.amiss s.rule F now <;> cases h2 : s.on <;> simp_all
/-- what is on with the first i looked at -/
def onAt (F : List Fi.Fire) (now : Int) (l : List Fi.St) (i : Nat) : List Bool := (Fi.look F now (l.take i) ++ l.drop i).map (·.on)
theorem onAt_len (F : List Fi.Fire) (now : Int) (l : List Fi.St) (i : Nat) : (onAt F now l i).length = l.length := by
  simp [onAt, Fi.look]; omega
theorem onAt_0 (F : List Fi.Fire) (now : Int) (l : List Fi.St) : onAt F now l 0 = l.map (·.on) := by simp [onAt, Fi.look]
theorem onAt_get (F : List Fi.Fire) (now : Int) (l : List Fi.St) (i t : Nat) (s : Fi.St) (h : l[t]? = some s) : (onAt F now l i)[t]? = some (if t < i then Fi.amiss s.rule F now else s.on) := by
  have ht : t < l.length := (List.getElem?_eq_some_iff.1 h).1
  unfold onAt Fi.look
  rw [List.getElem?_map, List.getElem?_append]
  by_cases hi : t < i
  · rw [if_pos (by simp; omega), if_pos hi, List.getElem?_map, List.getElem?_take, if_pos hi, h]
    simp [look1_on]
  · rw [if_neg (by simp; omega), if_neg hi, List.getElem?_drop]
    have : i + (t - (List.map (Fi.look1 F now) (List.take i l)).length) = t := by simp; omega
    rw [this, h]; rfl
theorem onAt_end (F : List Fi.Fire) (now : Int) (l : List Fi.St) (i : Nat) (h : ∀ s ∈ l.drop i, Fi.amiss s.rule F now = s.on) : onAt F now l i = (Fi.look F now l).map (·.on) := by
  apply List.ext_getElem?
  intro t
  by_cases ht : t < l.length
  · have hs : l[t]? = some l[t] := List.getElem?_eq_getElem ht
    rw [onAt_get F now l i t _ hs]
    have : ((Fi.look F now l).map (·.on))[t]? = some (Fi.amiss l[t].rule F now) := by simp [Fi.look, hs, look1_on]
    rw [this]
    by_cases hi : t < i
    · rw [if_pos hi]
    · rw [if_neg hi, h l[t] ?_]
      rw [List.mem_iff_getElem?]
      exact ⟨t - i, by rw [List.getElem?_drop, show i + (t - i) = t by omega]; exact hs⟩
  · rw [List.getElem?_eq_none (by rw [onAt_len]; omega), List.getElem?_eq_none (by simp [Fi.look]; omega)]
theorem onAt_step (F : List Fi.Fire) (now : Int) (l : List Fi.St) (i m : Nat) (s : Fi.St) (h : (l.drop i)[m]? = some s) (hq : ∀ x ∈ (l.drop i).take m, Fi.amiss x.rule F now = x.on) : onAt F now l (i + m + 1) = (onAt F now l i).set (i + m) (Fi.amiss s.rule F now) := by
  rw [List.getElem?_drop] at h
  apply List.ext_getElem?
  intro t
  by_cases ht : t < l.length
  · have hs : l[t]? = some l[t] := List.getElem?_eq_getElem ht
    rw [onAt_get F now l _ t _ hs, List.getElem?_set]
    by_cases he : i + m = t
    · subst he
      rw [hs] at h
      obtain rfl := Option.some.inj h
      rw [if_pos rfl, if_pos (by omega), if_pos (by rw [onAt_len]; omega)]
    · rw [if_neg he, onAt_get F now l i t _ hs]
      by_cases h1 : t < i
      · rw [if_pos (by omega), if_pos h1]
      · by_cases h2 : t < i + m + 1
        · rw [if_pos h2, if_neg h1, hq l[t] ?_]
          rw [List.mem_iff_getElem?]
          exact ⟨t - i, by rw [List.getElem?_take, if_pos (by omega), List.getElem?_drop, show i + (t - i) = t by omega]; exact hs⟩
        · rw [if_neg h2, if_neg h1]
  · rw [List.getElem?_eq_none (by rw [onAt_len]; omega), List.getElem?_eq_none (by rw [List.length_set, onAt_len]; omega)]
/-- which are on, from a number on -/
def onsFrom : Nat → List Fi.St → List (Int × Int)
  | _, [] => []
  | k, s :: l => if s.on = true then ((k : Int), s.since) :: onsFrom (k + 1) l else onsFrom (k + 1) l
theorem onsFrom_zip : ∀ (l : List Fi.St) (k : Nat), ((l.zipIdx k).filter fun x => x.1.on).map (fun x => ((x.2 : Int), x.1.since)) = onsFrom k l
  | [], _ => rfl
  | s :: l, k => by
    rw [List.zipIdx_cons, List.filter_cons, onsFrom]
    split
    · rw [List.map_cons, onsFrom_zip l (k + 1)]
    · exact onsFrom_zip l (k + 1)
theorem onsL_from (l : List Fi.St) : onsL l = onsFrom 0 l := onsFrom_zip l 0
theorem ons_next : ∀ (l : List Fi.St) (k : Nat), (onsFrom k l = [] ∧ ∀ s ∈ l, s.on = false) ∨
    ∃ (m : Nat) (s : Fi.St), l[m]? = some s ∧ onsFrom k l = (((k + m : Nat) : Int), s.since) :: onsFrom (k + m + 1) (l.drop (m + 1)) ∧ s.on = true ∧ ∀ x ∈ l.take m, x.on = false
  | [], _ => .inl ⟨rfl, by simp⟩
  | s :: l, k => by
    by_cases h : s.on = true
    · right
      exact ⟨0, s, rfl, by rw [onsFrom, if_pos h]; rfl, h, by simp⟩
    · have h' : s.on = false := by simpa using h
      rcases ons_next l (k + 1) with ⟨h1, h2⟩ | ⟨m, x, h1, h2, h3, h4⟩
      · left
        refine ⟨by rw [onsFrom, if_neg h, h1], ?_⟩
        intro y hy
        rcases List.mem_cons.1 hy with rfl | hy
        · exact h'
        · exact h2 y hy
      · right
        refine ⟨m + 1, x, by simpa using h1, ?_, h3, ?_⟩
        · rw [onsFrom, if_neg h, h2, show k + 1 + m = k + (m + 1) by omega]; rfl
        · intro y hy
          rw [List.take_succ_cons] at hy
          rcases List.mem_cons.1 hy with rfl | hy
          · exact h'
          · exact h4 y hy
/-- which are found on with the first i gone over -/
def areAt (l : List Fi.St) (i : Nat) : List Bool := (l.take i).map (·.on) ++ List.replicate (l.length - i) false
theorem areAt_len (l : List Fi.St) (i : Nat) : (areAt l i).length = l.length := by simp [areAt]; omega
theorem areAt_0 (l : List Fi.St) : areAt l 0 = List.replicate l.length false := by simp [areAt]
theorem areAt_get (l : List Fi.St) (i t : Nat) (s : Fi.St) (h : l[t]? = some s) : (areAt l i)[t]? = some (if t < i then s.on else false) := by
  have ht : t < l.length := (List.getElem?_eq_some_iff.1 h).1
  unfold areAt
  rw [List.getElem?_append]
  by_cases hi : t < i
  · rw [if_pos (by simp; omega), if_pos hi, List.getElem?_map, List.getElem?_take, if_pos hi, h]; rfl
  · rw [if_neg (by simp; omega), if_neg hi, List.getElem?_replicate, if_pos (by simp; omega)]
theorem areAt_end (l : List Fi.St) (i : Nat) (h : ∀ s ∈ l.drop i, s.on = false) : areAt l i = l.map (·.on) := by
  apply List.ext_getElem?
  intro t
  by_cases ht : t < l.length
  · have hs : l[t]? = some l[t] := List.getElem?_eq_getElem ht
    rw [areAt_get l i t _ hs]
    have : (l.map (·.on))[t]? = some l[t].on := by simp [hs]
    rw [this]
    by_cases hi : t < i
    · rw [if_pos hi]
    · rw [if_neg hi, h l[t] ?_]
      rw [List.mem_iff_getElem?]
      exact ⟨t - i, by rw [List.getElem?_drop, show i + (t - i) = t by omega]; exact hs⟩
  · rw [List.getElem?_eq_none (by rw [areAt_len]; omega), List.getElem?_eq_none (by simp; omega)]
theorem areAt_step (l : List Fi.St) (i m : Nat) (s : Fi.St) (h : (l.drop i)[m]? = some s) (hon : s.on = true) (hq : ∀ x ∈ (l.drop i).take m, x.on = false) : areAt l (i + m + 1) = (areAt l i).set (i + m) true := by
  rw [List.getElem?_drop] at h
  apply List.ext_getElem?
  intro t
  by_cases ht : t < l.length
  · have hs : l[t]? = some l[t] := List.getElem?_eq_getElem ht
    rw [areAt_get l _ t _ hs, List.getElem?_set]
    by_cases he : i + m = t
    · subst he
      rw [hs] at h
      obtain rfl := Option.some.inj h
      rw [if_pos rfl, if_pos (by omega), if_pos (by rw [areAt_len]; omega), hon]
    · rw [if_neg he, areAt_get l i t _ hs]
      by_cases h1 : t < i
      · rw [if_pos (by omega), if_pos h1]
      · by_cases h2 : t < i + m + 1
        · rw [if_pos h2, if_neg h1, hq l[t] ?_]
          rw [List.mem_iff_getElem?]
          exact ⟨t - i, by rw [List.getElem?_take, if_pos (by omega), List.getElem?_drop, show i + (t - i) = t by omega]; exact hs⟩
        · rw [if_neg h2, if_neg h1]
  · rw [List.getElem?_eq_none (by rw [areAt_len]; omega), List.getElem?_eq_none (by rw [List.length_set, areAt_len]; omega)]
end Go.Proofs.Ytaepkmjlkenenaa
