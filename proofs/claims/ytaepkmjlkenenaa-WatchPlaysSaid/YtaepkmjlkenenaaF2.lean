import Derived.Test.YtaepkmjlkenenaaF1
import Derived.Test.YtaepkmjlkenenaaFi2
namespace Go.Proofs.Ytaepkmjlkenenaa
open Go.RowKit

abbrev ruleV (r : Fi.Rule) : Value := .agg #[.int .u8 r.kind, .int .u64 r.job, .int .i64 r.n]
def RuleAt (w : World) (t : TypeId) (b : Nat) (r : Fi.Rule) : Prop := w.heap[b]? = some (.cells #[.int .u8 r.kind, .int .u64 r.job, .int .i64 r.n] t (0, 0))
theorem RuleAt.facts {w : World} {t : TypeId} {b : Nat} {r : Fi.Rule} (h : RuleAt w t b r) : w.cell? ⟨b, 0, none⟩ = some (.int .u8 r.kind) ∧ w.cell? ⟨b, 1, none⟩ = some (.int .u64 r.job) ∧ w.cell? ⟨b, 2, none⟩ = some (.int .i64 r.n) := by
  refine ⟨?_, ?_, ?_⟩ <;> (rw [cell_of_row w b _ _ t (0, 0) h]; rfl)
theorem RuleAt.lt {w : World} {t : TypeId} {b : Nat} {r : Fi.Rule} (h : RuleAt w t b r) : b < w.heap.size := (Array.getElem?_eq_some_iff.1 h).1
theorem RuleAt.keep {w w' : World} {t : TypeId} {b : Nat} {r : Fi.Rule} (h : RuleAt w t b r) (hb : Below w.heap.size w w') : RuleAt w' t b r := by
  unfold RuleAt; rw [hb.block _ h.lt]; exact h
theorem RuleAt.new (w : World) (t : TypeId) (r : Fi.Rule) (b : Nat) (h : b = w.heap.size) : RuleAt (w.alloc (.cells #[.int .u8 r.kind, .int .u64 r.job, .int .i64 r.n] t)) t b r := by
  subst h; unfold RuleAt World.alloc; simp
/-- a value in a block of its own -/
def NumAt (w : World) (b : Nat) (t : TypeId) (v : Value) : Prop := w.heap[b]? = some (.cells #[v] t (0, 0))
theorem NumAt.cell {w : World} {b : Nat} {t : TypeId} {v : Value} (h : NumAt w b t v) : w.cell? ⟨b, 0, none⟩ = some v := by rw [cell_of_row w b _ _ t (0, 0) h]; rfl
theorem NumAt.froz {w : World} {b : Nat} {t : TypeId} {v : Value} (h : NumAt w b t v) : w.frozen? ⟨b, 0, none⟩ = false := frozen_of_row w b 0 _ t h
theorem NumAt.lt {w : World} {b : Nat} {t : TypeId} {v : Value} (h : NumAt w b t v) : b < w.heap.size := (Array.getElem?_eq_some_iff.1 h).1
theorem NumAt.keep {w w' : World} {b : Nat} {t : TypeId} {v : Value} (h : NumAt w b t v) (hb : Below w.heap.size w w') : NumAt w' b t v := by
  unfold NumAt; rw [hb.block _ h.lt]; exact h
theorem NumAt.keepAt {w w' : World} {b N : Nat} {t : TypeId} {v : Value} (h : NumAt w b t v) (hb : Below N w w') (hl : b < N) : NumAt w' b t v := by
  unfold NumAt; rw [hb.block _ hl]; exact h
theorem NumAt.set {w : World} {b : Nat} {t : TypeId} {v : Value} (h : NumAt w b t v) (u : Value) : NumAt (w.setCell ⟨b, 0, none⟩ u) b t u := heap_setCell_same w b 0 _ t u h
theorem NumAt.other {w : World} {b : Nat} {t : TypeId} {v : Value} (h : NumAt w b t v) (a : Addr) (ha : b ≠ a.block) (u : Value) : NumAt (w.setCell a u) b t v := by
  unfold NumAt; rw [Below.heap_setCell _ _ _ _ ha]; exact h
theorem NumAt.mk (w : World) (t : TypeId) (v : Value) (b : Nat) (h : b = w.heap.size) : NumAt (w.alloc (.cells #[v] t)) b t v := by subst h; unfold NumAt World.alloc; simp

set_option maxRecDepth 100000 in
theorem ruleMay_any (r : Fi.Rule) (w : World) : Calls Try.prog 37 #[ruleV r] w fun e w' => e = .returned (.bool (Fi.may r)) ∧ Below w.heap.size w w' := by
  unfold ruleV
  go_enter Try.func37, Try.ntmps37
  go_wp2_with fail
  all_goals
    go_ret
    exact ⟨ret_bool (by unfold Fi.may; rw [Bool.eq_iff_iff]; simp only [Bool.and_eq_true, decide_eq_true_eq, Bool.false_eq_true, false_iff]; omega), Below.al (Below.refl _ _) _⟩
set_option maxRecDepth 100000 in
theorem refRuleMay_any (r : Fi.Rule) (w : World) : Calls Try.prog 23 #[ruleV r] w fun e w' => e = .returned (.bool (Fi.may r)) ∧ Below w.heap.size w w' := by
  unfold ruleV
  go_enter Try.func23, Try.ntmps23
  go_wp2_with fail
  all_goals
    go_ret
    exact ⟨ret_bool (by unfold Fi.may; rw [Bool.eq_iff_iff]; simp only [Bool.and_eq_true, decide_eq_true_eq, Bool.false_eq_true, false_iff]; omega), Below.al (Below.refl _ _) _⟩
theorem wrap_uu (z : Int) (h0 : 0 ≤ z) (h1 : z < 18446744073709551616) : IntKind.u64.wrap (wrap64 z) = z := by
  rw [IntKind.wrap_u64]; unfold wrap64; omega
set_option maxRecDepth 100000 in
theorem ahead_any (f : Fi.Fire) (r : Fi.Rule) (now : Int) (hr0 : 1 ≤ r.n) (hr1 : r.n ≤ 1099511627776) (hf : Fi.I64 f.at') (hnow : Fi.I64 now) (bn br : Nat) (w : World) (hN : NumAt w bn 2 (.int .i64 now)) (hR : RuleAt w 34 br r) :
    Calls Try.prog 36 #[fireV f, .pointer (some ⟨bn, 0, none⟩), .pointer (some ⟨br, 0, none⟩)] w fun e w' => e = .returned (.bool (Fi.ahead r.n now f)) ∧ Below w.heap.size w w' := by
  obtain ⟨f0, f1⟩ := hf
  obtain ⟨n0, n1⟩ := hnow
  have hal := Below.al (Below.refl w.heap.size w) (.cells #[.int .u64 f.job, .int .i64 f.at', .int .i64 f.state, .int .i64 f.att, .int .u64 f.tok, .int .u64 f.wk, .int .i64 f.til] 58)
  have c1 := (hN.keep hal).cell
  obtain ⟨r0, r1, r2⟩ := (hR.keep hal).facts
  unfold fireV
  by_cases h : f.at' < now
  · have hw := wrap_uu (now - f.at') (by omega) (by omega)
    go_enter Try.func36, Try.ntmps36
    go_wp2_with fail
    go_ret
    exact ⟨ret_bool (by unfold Fi.ahead; simp [h]), hal⟩
  · go_enter Try.func36, Try.ntmps36
    go_wp2_with fail
    go_ret
    exact ⟨ret_bool (by unfold Fi.ahead; simp; omega), hal⟩
/-- what Amiss has in memory for its closures -/
structure Clo (w : World) (bc bn br : Nat) (r : Fi.Rule) (now : Int) : Prop where
  fn : NumAt w bc 60 (.func (.func 36) #[] #[.pointer (some ⟨bn, 0, none⟩), .pointer (some ⟨br, 0, none⟩)])
  now : NumAt w bn 2 (.int .i64 now)
  rule : RuleAt w 34 br r
theorem Clo.keep {w w' : World} {bc bn br : Nat} {r : Fi.Rule} {now : Int} (h : Clo w bc bn br r now) (hb : Below w.heap.size w w') : Clo w' bc bn br r now := ⟨h.fn.keep hb, h.now.keep hb, h.rule.keep hb⟩
set_option maxRecDepth 100000 in
theorem late_any (f : Fi.Fire) (r : Fi.Rule) (now : Int) (hr0 : 1 ≤ r.n) (hr1 : r.n ≤ 1099511627776) (hf : Fi.I64 f.at') (hnow : Fi.I64 now) (bc bn br : Nat) (w : World) (hC : Clo w bc bn br r now) :
    Calls Try.prog 39 #[fireV f, .pointer (some ⟨bc, 0, none⟩)] w fun e w' => e = .returned (.bool (Fi.late r.n now f)) ∧ Below w.heap.size w w' := by
  have hal := Below.al (Below.refl w.heap.size w) (.cells #[.int .u64 f.job, .int .i64 f.at', .int .i64 f.state, .int .i64 f.att, .int .u64 f.tok, .int .u64 f.wk, .int .i64 f.til] 58)
  have c1 := (hC.fn.keep hal).cell
  have hA := ahead_any f r now hr0 hr1 hf hnow bn br _ (hC.now.keep hal) (hC.rule.keep hal)
  unfold fireV at *
  obtain ⟨q, hq⟩ : ∃ q, Fi.ahead r.n now f = q := ⟨_, rfl⟩
  rw [hq] at hA
  have HQ := Lib.hid hq
  clear hq
  by_cases h : f.state = 1
  · have hb : (f.state == 1) = true := by simp [h]
    have HH := Lib.hid h
    clear h
    go_enter Try.func39, Try.ntmps39
    go_wp2_with (go_at_call 36; refine hA.mono ?_; rintro e w1 ⟨rfl, hc⟩)
    go_ret
    exact ⟨ret_bool (by unfold Fi.late; rw [HQ.out]; simp [HH.out]), Below.call hal hc⟩
  · have hb : (f.state == 1) = false := beq_false_of_ne h
    have HH := Lib.hid h
    clear h
    go_enter Try.func39, Try.ntmps39
    go_wp2_with fail
    go_ret
    exact ⟨ret_bool (by unfold Fi.late; simp [HH.out]), hal⟩
set_option maxRecDepth 100000 in
theorem index_late (l : List Fi.Fire) (v : Value) (r : Fi.Rule) (now : Int) (hr0 : 1 ≤ r.n) (hr1 : r.n ≤ 1099511627776) (hf : ∀ f ∈ l, Fi.I64 f.at') (hnow : Fi.I64 now) (hn : l.length ≤ 1000000) (bc bn br : Nat) (w : World) (hl : Fires w v l) (hC : Clo w bc bn br r now) :
    Calls Try.prog 47 #[v, .func (.func 39) #[] #[.pointer (some ⟨bc, 0, none⟩)]] w fun e w' => ∃ i : Int, e = .returned (.int .i64 i) ∧ decide (0 ≤ i) = l.any (Fi.late r.n now) ∧ Below w.heap.size w w' := by
  obtain ⟨ao, cap, rfl, h1, h2, h3⟩ := hl.form
  go_enter Try.func47, Try.ntmps47
  go_wp2_with fail
  go_loopw [8] (fun i wr => ∃ k : Nat, k ≤ l.length ∧ i = .int .i64 k ∧ (l.take k).any (Fi.late r.n now) = false ∧ Below w.heap.size w wr) (fun i _ => l.length - (intOf i).toNat)
  case atStart => exact ⟨0, Nat.zero_le _, rfl, by simp, Below.refl _ _⟩
  case round =>
    obtain ⟨k, hk, rfl, hnone, hbr⟩ := hrel
    by_cases hlt : k < l.length
    · have hlt' : (k : Int) < (l.length : Int) := by omega
      obtain ⟨bl, off, rfl, hbl, hca⟩ := Fires.at (hl.keep hbr) (by omega)
      obtain ⟨c0, c1, c2, c3, c4, c5, c6⟩ := hca k hlt
      have hts : (l.take (k + 1)).any (Fi.late r.n now) = ((l.take k).any (Fi.late r.n now) || Fi.late r.n now l[k]) := by rw [Fi.take_snoc l k hlt, Fi.any_snoc]
      have hin : l.any (Fi.late r.n now) = true ∨ Fi.late r.n now l[k] = false := by
        cases hp : Fi.late r.n now l[k] with
        | true => left; rw [List.any_eq_true]; exact ⟨l[k], List.getElem_mem hlt, hp⟩
        | false => right; rfl
      have hX := late_any l[k] r now hr0 hr1 (hf _ (List.getElem_mem hlt)) hnow bc bn br _ (hC.keep hbr)
      rw [hnone] at hts
      clear hca hnone
      generalize l[k] = x at *
      cases hp : Fi.late r.n now x with
      | true =>
        rw [hp] at hX
        have HIN := Lib.hid hin
        have HP := Lib.hid hp
        clear hin hp hts
        go_wp2_with fail
        refine hX.mono ?_
        clear hX
        rintro e w1 ⟨rfl, hc⟩
        go_wp2_with fail
        go_ret
        refine ⟨k, rfl, ?_, Below.call hbr hc⟩
        rcases HIN.out with h | h
        · rw [h]; simp
        · rw [HP.out] at h; cases h
      | false =>
        rw [hp] at hX
        rw [hp] at hts
        have HTS := Lib.hid hts
        clear hin hp hts
        go_wp2_with fail
        refine hX.mono ?_
        clear hX
        rintro e w1 ⟨rfl, hc⟩
        go_wp2_with fail
        exact ⟨⟨k + 1, by omega, by go_num, by rw [HTS.out]; rfl, Below.call hbr hc⟩, by simp [intOf]; omega⟩
    · obtain rfl : k = l.length := by omega
      rw [List.take_length] at hnone
      have HN := Lib.hid hnone
      clear hnone
      go_wp2_with fail
      go_ret
      exact ⟨-1, rfl, by rw [HN.out]; decide, hbr⟩
set_option maxRecDepth 100000 in
theorem contains_late (l : List Fi.Fire) (v : Value) (r : Fi.Rule) (now : Int) (hr0 : 1 ≤ r.n) (hr1 : r.n ≤ 1099511627776) (hf : ∀ f ∈ l, Fi.I64 f.at') (hnow : Fi.I64 now) (hn : l.length ≤ 1000000) (bc bn br : Nat) (w : World) (hl : Fires w v l) (hC : Clo w bc bn br r now) :
    Calls Try.prog 38 #[v, .func (.func 39) #[] #[.pointer (some ⟨bc, 0, none⟩)]] w fun e w' => e = .returned (.bool (l.any (Fi.late r.n now))) ∧ Below w.heap.size w w' := by
  have hI := index_late l v r now hr0 hr1 hf hnow hn bc bn br w hl hC
  generalize l.any (Fi.late r.n now) = q at *
  go_enter Try.func38, Try.ntmps38
  go_wp2_with fail
  refine hI.mono ?_
  clear hI
  rintro e w1 ⟨i, rfl, hi, hc⟩
  have HI := Lib.hid hi
  clear hi
  go_wp2_with fail
  go_ret
  exact ⟨ret_bool HI.out, hc⟩
set_option maxRecDepth 100000 in
theorem loud_any (f : Fi.Fire) (r : Fi.Rule) (now : Int) (hr0 : 1 ≤ r.n) (hr1 : r.n ≤ 1099511627776) (hf : Fi.I64 f.at') (hnow : Fi.I64 now) (bc bn br : Nat) (w : World) (hC : Clo w bc bn br r now) :
    Calls Try.prog 40 #[fireV f, .pointer (some ⟨bc, 0, none⟩)] w fun e w' => e = .returned (.bool (Fi.loud r.n now f)) ∧ Below w.heap.size w w' := by
  have hal := Below.al (Below.refl w.heap.size w) (.cells #[.int .u64 f.job, .int .i64 f.at', .int .i64 f.state, .int .i64 f.att, .int .u64 f.tok, .int .u64 f.wk, .int .i64 f.til] 58)
  have c1 := (hC.fn.keep hal).cell
  have hA := ahead_any f r now hr0 hr1 hf hnow bn br _ (hC.now.keep hal) (hC.rule.keep hal)
  unfold fireV at *
  obtain ⟨q, hq⟩ : ∃ q, Fi.ahead r.n now f = q := ⟨_, rfl⟩
  rw [hq] at hA
  have HQ := Lib.hid hq
  clear hq
  by_cases h : f.state = 3
  · have hb : (f.state == 3) = true := by simp [h]
    have HH := Lib.hid h
    clear h
    go_enter Try.func40, Try.ntmps40
    go_wp2_with (go_at_call 36; refine hA.mono ?_; rintro e w1 ⟨rfl, hc⟩)
    go_ret
    exact ⟨ret_bool (by unfold Fi.loud; rw [HQ.out]; simp [HH.out]), Below.call hal hc⟩
  · have hb : (f.state == 3) = false := beq_false_of_ne h
    have HH := Lib.hid h
    clear h
    go_enter Try.func40, Try.ntmps40
    go_wp2_with fail
    go_ret
    exact ⟨ret_bool (by unfold Fi.loud; simp [HH.out]), hal⟩
set_option maxRecDepth 100000 in
theorem index_loud (l : List Fi.Fire) (v : Value) (r : Fi.Rule) (now : Int) (hr0 : 1 ≤ r.n) (hr1 : r.n ≤ 1099511627776) (hf : ∀ f ∈ l, Fi.I64 f.at') (hnow : Fi.I64 now) (hn : l.length ≤ 1000000) (bc bn br : Nat) (w : World) (hl : Fires w v l) (hC : Clo w bc bn br r now) :
    Calls Try.prog 47 #[v, .func (.func 40) #[] #[.pointer (some ⟨bc, 0, none⟩)]] w fun e w' => ∃ i : Int, e = .returned (.int .i64 i) ∧ decide (0 ≤ i) = l.any (Fi.loud r.n now) ∧ Below w.heap.size w w' := by
  obtain ⟨ao, cap, rfl, h1, h2, h3⟩ := hl.form
  go_enter Try.func47, Try.ntmps47
  go_wp2_with fail
  go_loopw [8] (fun i wr => ∃ k : Nat, k ≤ l.length ∧ i = .int .i64 k ∧ (l.take k).any (Fi.loud r.n now) = false ∧ Below w.heap.size w wr) (fun i _ => l.length - (intOf i).toNat)
  case atStart => exact ⟨0, Nat.zero_le _, rfl, by simp, Below.refl _ _⟩
  case round =>
    obtain ⟨k, hk, rfl, hnone, hbr⟩ := hrel
    by_cases hlt : k < l.length
    · have hlt' : (k : Int) < (l.length : Int) := by omega
      obtain ⟨bl, off, rfl, hbl, hca⟩ := Fires.at (hl.keep hbr) (by omega)
      obtain ⟨c0, c1, c2, c3, c4, c5, c6⟩ := hca k hlt
      have hts : (l.take (k + 1)).any (Fi.loud r.n now) = ((l.take k).any (Fi.loud r.n now) || Fi.loud r.n now l[k]) := by rw [Fi.take_snoc l k hlt, Fi.any_snoc]
      have hin : l.any (Fi.loud r.n now) = true ∨ Fi.loud r.n now l[k] = false := by
        cases hp : Fi.loud r.n now l[k] with
        | true => left; rw [List.any_eq_true]; exact ⟨l[k], List.getElem_mem hlt, hp⟩
        | false => right; rfl
      have hX := loud_any l[k] r now hr0 hr1 (hf _ (List.getElem_mem hlt)) hnow bc bn br _ (hC.keep hbr)
      rw [hnone] at hts
      clear hca hnone
      generalize l[k] = x at *
      cases hp : Fi.loud r.n now x with
      | true =>
        rw [hp] at hX
        have HIN := Lib.hid hin
        have HP := Lib.hid hp
        clear hin hp hts
        go_wp2_with fail
        refine hX.mono ?_
        clear hX
        rintro e w1 ⟨rfl, hc⟩
        go_wp2_with fail
        go_ret
        refine ⟨k, rfl, ?_, Below.call hbr hc⟩
        rcases HIN.out with h | h
        · rw [h]; simp
        · rw [HP.out] at h; cases h
      | false =>
        rw [hp] at hX
        rw [hp] at hts
        have HTS := Lib.hid hts
        clear hin hp hts
        go_wp2_with fail
        refine hX.mono ?_
        clear hX
        rintro e w1 ⟨rfl, hc⟩
        go_wp2_with fail
        exact ⟨⟨k + 1, by omega, by go_num, by rw [HTS.out]; rfl, Below.call hbr hc⟩, by simp [intOf]; omega⟩
    · obtain rfl : k = l.length := by omega
      rw [List.take_length] at hnone
      have HN := Lib.hid hnone
      clear hnone
      go_wp2_with fail
      go_ret
      exact ⟨-1, rfl, by rw [HN.out]; decide, hbr⟩
set_option maxRecDepth 100000 in
theorem contains_loud (l : List Fi.Fire) (v : Value) (r : Fi.Rule) (now : Int) (hr0 : 1 ≤ r.n) (hr1 : r.n ≤ 1099511627776) (hf : ∀ f ∈ l, Fi.I64 f.at') (hnow : Fi.I64 now) (hn : l.length ≤ 1000000) (bc bn br : Nat) (w : World) (hl : Fires w v l) (hC : Clo w bc bn br r now) :
    Calls Try.prog 38 #[v, .func (.func 40) #[] #[.pointer (some ⟨bc, 0, none⟩)]] w fun e w' => e = .returned (.bool (l.any (Fi.loud r.n now))) ∧ Below w.heap.size w w' := by
  have hI := index_loud l v r now hr0 hr1 hf hnow hn bc bn br w hl hC
  generalize l.any (Fi.loud r.n now) = q at *
  go_enter Try.func38, Try.ntmps38
  go_wp2_with fail
  refine hI.mono ?_
  clear hI
  rintro e w1 ⟨i, rfl, hi, hc⟩
  have HI := Lib.hid hi
  clear hi
  go_wp2_with fail
  go_ret
  exact ⟨ret_bool HI.out, hc⟩
end Go.Proofs.Ytaepkmjlkenenaa
