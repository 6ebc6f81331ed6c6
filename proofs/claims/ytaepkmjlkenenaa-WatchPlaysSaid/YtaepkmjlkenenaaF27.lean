/- Plain: since when each rule is on, as the law keeps it: below 0 while it is off. -/
import Derived.Test.YtaepkmjlkenenaaF22
namespace Go.Proofs.Ytaepkmjlkenenaa

def sinceOf (s : Fi.St) : Int := if s.on = true then s.since else -1
def sinceL (l : List Fi.St) : List Int := l.map sinceOf
/-- since when: no moment below 0 -/
def SOk (s : Fi.St) : Prop := s.on = true → 0 ≤ s.since
theorem sinceOf_ge {s : Fi.St} (h : SOk s) : decide (0 ≤ sinceOf s) = s.on := by
  unfold sinceOf
  cases hs : s.on with
  | true => rw [if_pos rfl]; exact decide_eq_true (h hs)
  | false => simp
theorem sinceOf_on {s : Fi.St} (h : s.on = true) : sinceOf s = s.since := by unfold sinceOf; rw [if_pos h]
theorem sinceOf_st0 (r : Fi.Rule) : sinceOf ⟨r, false, 0⟩ = -1 := by unfold sinceOf; simp
theorem look1_ok {F : List Fi.Fire} {now : Int} (h0 : 0 ≤ now) {s : Fi.St} (h : SOk s) : SOk (Fi.look1 F now s) := by
  unfold Fi.look1
  split
  · exact h
  · intro _; exact h0
theorem look_ok {F : List Fi.Fire} {now : Int} (h0 : 0 ≤ now) {l : List Fi.St} (h : ∀ s ∈ l, SOk s) : ∀ s ∈ Fi.look F now l, SOk s := by
  intro s hs
  unfold Fi.look at hs
  obtain ⟨x, hx, rfl⟩ := List.mem_map.1 hs
  exact look1_ok h0 (h x hx)
theorem sinceOf_same {F : List Fi.Fire} {now : Int} {s : Fi.St} (h : Fi.amiss s.rule F now = s.on) : sinceOf (Fi.look1 F now s) = sinceOf s := by
  unfold Fi.look1; rw [if_pos h]
theorem sinceOf_turn {F : List Fi.Fire} {now : Int} {s : Fi.St} (h : Fi.amiss s.rule F now ≠ s.on) : sinceOf (Fi.look1 F now s) = if Fi.amiss s.rule F now = true then now else -1 := by
  unfold Fi.look1; rw [if_neg h]; rfl
/-- since when, with the first i looked at -/
def sinceAt (F : List Fi.Fire) (now : Int) (l : List Fi.St) (i : Nat) : List Int := (Fi.look F now (l.take i) ++ l.drop i).map sinceOf
theorem sinceAt_len (F : List Fi.Fire) (now : Int) (l : List Fi.St) (i : Nat) : (sinceAt F now l i).length = l.length := by
  simp [sinceAt, Fi.look]; omega
theorem sinceAt_0 (F : List Fi.Fire) (now : Int) (l : List Fi.St) : sinceAt F now l 0 = sinceL l := by simp [sinceAt, Fi.look, sinceL]
theorem sinceAt_all (F : List Fi.Fire) (now : Int) (l : List Fi.St) : sinceAt F now l l.length = sinceL (Fi.look F now l) := by simp [sinceAt, Fi.look, sinceL]
theorem sinceAt_get (F : List Fi.Fire) (now : Int) (l : List Fi.St) (i t : Nat) (s : Fi.St) (h : l[t]? = some s) : (sinceAt F now l i)[t]? = some (if t < i then sinceOf (Fi.look1 F now s) else sinceOf s) := by
  have ht : t < l.length := (List.getElem?_eq_some_iff.1 h).1
  unfold sinceAt Fi.look
  rw [List.getElem?_map, List.getElem?_append]
  by_cases hi : t < i
  · rw [if_pos (by simp; omega), if_pos hi, List.getElem?_map, List.getElem?_take, if_pos hi, h]; rfl
  · rw [if_neg (by simp; omega), if_neg hi, List.getElem?_drop]
    have : i + (t - (List.map (Fi.look1 F now) (List.take i l)).length) = t := by simp; omega
    rw [this, h]; rfl
theorem sinceAt_step (F : List Fi.Fire) (now : Int) (l : List Fi.St) (i : Nat) (s : Fi.St) (h : l[i]? = some s) : sinceAt F now l (i + 1) = (sinceAt F now l i).set i (sinceOf (Fi.look1 F now s)) := by
  apply List.ext_getElem?
  intro t
  by_cases ht : t < l.length
  · have hs : l[t]? = some l[t] := List.getElem?_eq_getElem ht
    rw [sinceAt_get F now l _ t _ hs, List.getElem?_set]
    by_cases he : i = t
    · subst he
      rw [hs] at h
      obtain rfl := Option.some.inj h
      rw [if_pos rfl, if_pos (by omega), if_pos (by rw [sinceAt_len]; omega)]
    · rw [if_neg he, sinceAt_get F now l i t _ hs]
      by_cases h1 : t < i
      · rw [if_pos (by omega), if_pos h1]
      · rw [if_neg (by omega), if_neg h1]
  · rw [List.getElem?_eq_none (by rw [sinceAt_len]; omega), List.getElem?_eq_none (by rw [List.length_set, sinceAt_len]; omega)]
theorem sinceAt_quiet (F : List Fi.Fire) (now : Int) (l : List Fi.St) (i : Nat) (s : Fi.St) (h : l[i]? = some s) (hq : Fi.amiss s.rule F now = s.on) : sinceAt F now l (i + 1) = sinceAt F now l i := by
  rw [sinceAt_step F now l i s h, sinceOf_same hq]
  apply set_same
  rw [sinceAt_get F now l i i s h, if_neg (by omega)]
theorem rings_take (F : List Fi.Fire) (now : Int) (l : List Fi.St) (i : Nat) (s : Fi.St) (h : l[i]? = some s) : Fi.rings F now 0 (l.take (i + 1)) = Fi.rings F now 0 (l.take i) ++ Fi.ring F now i s := by
  obtain ⟨hi, rfl⟩ := List.getElem?_eq_some_iff.1 h
  rw [List.take_succ_eq_append_getElem hi, Fi.rings_snoc]
  have : 0 + (l.take i).length = i := by rw [List.length_take]; omega
  rw [this]
/-- how many are on -/
def cntOn (l : List Fi.St) : Nat := (l.filter (·.on)).length
theorem cntOn_from : ∀ (l : List Fi.St) (k : Nat), (onsFrom k l).length = cntOn l
  | [], _ => rfl
  | s :: l, k => by
    unfold onsFrom cntOn
    have ih := cntOn_from l (k + 1)
    unfold cntOn at ih
    cases h : s.on with
    | true => simp [h, ih]
    | false => simp [h, ih]
theorem cntOn_ons (l : List Fi.St) : (onsL l).length = cntOn l := by rw [onsL_from, cntOn_from]
theorem cntOn_take (l : List Fi.St) (i : Nat) (s : Fi.St) (h : l[i]? = some s) : cntOn (l.take (i + 1)) = cntOn (l.take i) + (if s.on = true then 1 else 0) := by
  obtain ⟨hi, rfl⟩ := List.getElem?_eq_some_iff.1 h
  unfold cntOn
  rw [List.take_succ_eq_append_getElem hi, List.filter_append, List.length_append]
  cases h2 : l[i].on with
  | true => simp [h2]
  | false => simp [h2]
theorem cntOn_le (l : List Fi.St) : cntOn l ≤ l.length := List.length_filter_le _ _
end Go.Proofs.Ytaepkmjlkenenaa
