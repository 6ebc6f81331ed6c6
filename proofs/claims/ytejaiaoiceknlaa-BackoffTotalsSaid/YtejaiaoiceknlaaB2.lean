import Derived.Test.YtejaiaoiceknlaaB1
namespace Go.Proofs.Ytejaiaoiceknlaa
open Go.RowKit

set_option maxRecDepth 100000 in
theorem refMay_any (p : Bo.Plan) (w : World) : Calls Try.prog 9 #[planV p] w fun e w' => e = .returned (.bool (Bo.may p)) ∧ Below w.heap.size w w' := by
  unfold planV
  go_enter Try.func9, Try.ntmps9
  go_wp2_with fail
  all_goals
    go_ret
    exact ⟨ret_bool (by unfold Bo.may; rw [Bool.eq_iff_iff]; simp only [Bool.and_eq_true, decide_eq_true_eq, Bool.false_eq_true, false_iff]; omega), Below.al (Below.refl _ _) _⟩
theorem mod_bd (D s : Int) (h : 0 ≤ s) : 0 ≤ D % (s + 1) ∧ D % (s + 1) ≤ s := by
  have h1 := Int.emod_nonneg D (show s + 1 ≠ 0 by omega)
  have h2 := Int.emod_lt_of_pos D (show 0 < s + 1 by omega)
  omega
set_option maxRecDepth 100000 in
theorem wait_any (p : Bo.Plan) (hp : Bo.may p = true) (k n f : Int) (h0 : 0 ≤ f) (h1 : f ≤ 604800) (w : World) : Calls Try.prog 23 #[planV p, .int .u64 k, .int .i64 n, .int .i64 f] w fun e w' => e = .returned (.int .i64 (Bo.wait p k n f)) ∧ Below w.heap.size w w' := by
  have hm := (Bo.may_iff p).1 hp
  obtain ⟨-, -, -, -, -, hs0, hs1⟩ := hm
  obtain ⟨m, hmm⟩ : ∃ m, m = f * p.spread := ⟨_, rfl⟩
  have hm0 : 0 ≤ m := by rw [hmm]; exact Int.mul_nonneg h0 hs0
  have hm1 : m ≤ 604800 * 100 := by rw [hmm]; exact Int.mul_le_mul h1 hs1 hs0 (by omega)
  have hwm : IntKind.u64.wrap (f * p.spread) = m := by rw [← hmm]; exact IntWalk.u64_in _ (by omega)
  obtain ⟨d, hd⟩ : ∃ d, d = Bo.drawn p k n := ⟨_, rfl⟩
  have hdU := Bo.u_drawn p k n
  have hw : Bo.wait p k n f = max (f - d % (m / 100 + 1)) 1 := by unfold Bo.wait; rw [hmm, hd]
  rw [← hd] at hdU
  obtain ⟨hd0, hd1⟩ := hdU
  obtain ⟨hr0, hr1⟩ := mod_bd d (m / 100) (by omega)
  obtain ⟨r, hr⟩ : ∃ r, d % (m / 100 + 1) = r := ⟨_, rfl⟩
  rw [hr] at hr0 hr1
  have HW := Lib.hid hw
  have HD := Lib.hid hd
  have HM := Lib.hid hmm
  clear hw hd hmm
  unfold planV
  go_enter Try.func23, Try.ntmps23
  go_wp2_with fail
  refine (drawn_any _ _ _ _).mono ?_
  rw [← HD.out]
  rintro e w1 ⟨rfl, hc⟩
  go_wp2_with fail
  all_goals
    go_ret
    exact ⟨ret_int (by rw [HW.out, hr]; omega), Below.call (Below.al (Below.refl _ _) _) hc⟩
set_option maxRecDepth 100000 in
theorem fulls_any (p : Bo.Plan) (w : World) : Calls Try.prog 22 #[planV p] w fun e w' =>
    e = .returned (.func (.func 25) #[] #[.pointer (some ⟨w.heap.size + 1, 0, none⟩), .pointer (some ⟨w.heap.size, 0, none⟩)]) ∧
    w' = (w.alloc (.cells #[.int .i64 p.base, .int .i64 p.cap, .int .i64 p.factor, .int .i64 p.spread, .int .u64 p.seed] 24)).alloc (.cells #[.int .i64 0] 2) := by
  unfold planV
  go_enter Try.func22, Try.ntmps22
  go_wp2_with fail
  go_ret
  exact ⟨rfl, rfl⟩
/-- a plan in memory -/
def PlanAt (w : World) (t : TypeId) (b : Nat) (p : Bo.Plan) : Prop := w.heap[b]? = some (.cells #[.int .i64 p.base, .int .i64 p.cap, .int .i64 p.factor, .int .i64 p.spread, .int .u64 p.seed] t (0, 0))
theorem PlanAt.facts {w : World} {t : TypeId} {b : Nat} {p : Bo.Plan} (h : PlanAt w t b p) :
    w.cell? ⟨b, 0, none⟩ = some (.int .i64 p.base) ∧ w.cell? ⟨b, 1, none⟩ = some (.int .i64 p.cap) ∧ w.cell? ⟨b, 2, none⟩ = some (.int .i64 p.factor) ∧ w.cell? ⟨b, 3, none⟩ = some (.int .i64 p.spread) ∧ w.cell? ⟨b, 4, none⟩ = some (.int .u64 p.seed) := by
  refine ⟨?_, ?_, ?_, ?_, ?_⟩ <;> (rw [cell_of_row w b _ _ t (0, 0) h]; rfl)
theorem PlanAt.lt {w : World} {t : TypeId} {b : Nat} {p : Bo.Plan} (h : PlanAt w t b p) : b < w.heap.size := (Array.getElem?_eq_some_iff.1 h).1
theorem PlanAt.keep {w w' : World} {t : TypeId} {b : Nat} {p : Bo.Plan} (h : PlanAt w t b p) (hb : Below w.heap.size w w') : PlanAt w' t b p := by
  unfold PlanAt; rw [hb.block _ h.lt]; exact h
/-- a number in a block of its own -/
def NumAt (w : World) (b : Nat) (t : TypeId) (v : Value) : Prop := w.heap[b]? = some (.cells #[v] t (0, 0))
theorem NumAt.cell {w : World} {b : Nat} {t : TypeId} {v : Value} (h : NumAt w b t v) : w.cell? ⟨b, 0, none⟩ = some v := by rw [cell_of_row w b _ _ t (0, 0) h]; rfl
theorem NumAt.froz {w : World} {b : Nat} {t : TypeId} {v : Value} (h : NumAt w b t v) : w.frozen? ⟨b, 0, none⟩ = false := frozen_of_row w b 0 _ t h
theorem NumAt.lt {w : World} {b : Nat} {t : TypeId} {v : Value} (h : NumAt w b t v) : b < w.heap.size := (Array.getElem?_eq_some_iff.1 h).1
theorem NumAt.keep {w w' : World} {b : Nat} {t : TypeId} {v : Value} (h : NumAt w b t v) (hb : Below w.heap.size w w') : NumAt w' b t v := by
  unfold NumAt; rw [hb.block _ h.lt]; exact h
theorem NumAt.set {w : World} {b : Nat} {t : TypeId} {v : Value} (h : NumAt w b t v) (u : Value) : NumAt (w.setCell ⟨b, 0, none⟩ u) b t u := heap_setCell_same w b 0 _ t u h
theorem NumAt.other {w : World} {b : Nat} {t : TypeId} {v : Value} (h : NumAt w b t v) (a : Addr) (ha : b ≠ a.block) (u : Value) : NumAt (w.setCell a u) b t v := by
  unfold NumAt; rw [Below.heap_setCell _ _ _ _ ha]; exact h
theorem PlanAt.other {w : World} {t : TypeId} {b : Nat} {p : Bo.Plan} (h : PlanAt w t b p) (a : Addr) (ha : b ≠ a.block) (u : Value) : PlanAt (w.setCell a u) t b p := by
  unfold PlanAt; rw [Below.heap_setCell _ _ _ _ ha]; exact h
theorem NumAt.new (w : World) (t : TypeId) (v : Value) : NumAt (w.alloc (.cells #[v] t)) w.heap.size t v := by unfold NumAt World.alloc; simp
theorem PlanAt.new (w : World) (t : TypeId) (p : Bo.Plan) : PlanAt (w.alloc (.cells #[.int .i64 p.base, .int .i64 p.cap, .int .i64 p.factor, .int .i64 p.spread, .int .u64 p.seed] t)) t w.heap.size p := by unfold PlanAt World.alloc; simp
set_option maxRecDepth 100000 in
/-- the next full wait: the state lies in a cell -/
theorem next_any (p : Bo.Plan) (hp : Bo.may p = true) (bw bp : Nat) (x : Int) (h0 : 0 ≤ x) (h1 : x ≤ p.cap) (w : World) (hN : NumAt w bw 2 (.int .i64 x)) (hP : PlanAt w 24 bp p) :
    Calls Try.prog 25 #[.pointer (some ⟨bw, 0, none⟩), .pointer (some ⟨bp, 0, none⟩)] w fun e w' => e = .returned (.int .i64 (Bo.step p x)) ∧ w' = w.setCell ⟨bw, 0, none⟩ (.int .i64 (Bo.step p x)) := by
  obtain ⟨b0, b1, b2, f0, f1, -, -⟩ := (Bo.may_iff p).1 hp
  obtain ⟨ha, hb⟩ := Bo.mul_bd x p.factor h0 f0 f1
  obtain ⟨m, hm⟩ : ∃ m, m = x * p.factor := ⟨_, rfl⟩
  have hst : Bo.step p x = min (if x = 0 then p.base else if 100 < p.factor then max (m / 100) (x + 1) else m / 100) p.cap := by unfold Bo.step Bo.grow; rw [hm]
  rw [← hm] at ha hb
  have hwm : IntKind.i64.wrap (x * p.factor) = m := by rw [← hm]; exact IntWalk.i64_in _ (by omega)
  obtain ⟨y, hy⟩ : ∃ y, Bo.step p x = y := ⟨_, rfl⟩
  rw [hy] at hst ⊢
  have HS := Lib.hid hst
  have hc := hN.cell
  have hf := hN.froz
  obtain ⟨c0, c1, c2, c3, c4⟩ := hP.facts
  clear hst hy hm hN hP
  have HX : ∀ z : Int, z = y → ∀ (e : Ending) (w' : World), e = .returned (.int .i64 z) → w' = w.setCell ⟨bw, 0, none⟩ (.int .i64 z) → e = .returned (.int .i64 y) ∧ w' = w.setCell ⟨bw, 0, none⟩ (.int .i64 y) := by
    rintro z rfl e w' h h'; exact ⟨h, h'⟩
  have HXX := Lib.hid HX
  clear HX
  by_cases hx : x = 0
  · subst hx
    go_enter Try.func25, Try.ntmps25
    go_wp2_with fail
    all_goals (go_ret; refine HXX.out _ ?_ _ _ rfl rfl; rw [HS.out, if_pos trivial]; omega)
  · have hx' : (x == 0) = false := beq_false_of_ne hx
    by_cases hfac : 100 < p.factor
    · go_enter Try.func25, Try.ntmps25
      go_wp2_with fail
      all_goals (go_ret; refine HXX.out _ ?_ _ _ rfl rfl; rw [HS.out, if_neg hx, if_pos hfac]; omega)
    · go_enter Try.func25, Try.ntmps25
      go_wp2_with fail
      all_goals (go_ret; refine HXX.out _ ?_ _ _ rfl rfl; rw [HS.out, if_neg hx, if_neg (by omega)]; omega)
set_option maxRecDepth 100000 in
/-- the document's full wait -/
theorem refFull_any (p : Bo.Plan) (hp : Bo.may p = true) : ∀ (k : Nat) (w : World), k ≤ 2000 → Calls Try.prog 17 #[planV p, .int .i64 ((k : Int) + 1)] w fun e w' => e = .returned (.int .i64 (Bo.full p (k + 1))) ∧ Below w.heap.size w w' := by
  intro k
  induction k with
  | zero =>
    intro w _
    have h1 := Bo.full_one p hp
    have H1 := Lib.hid h1
    clear h1
    unfold planV
    go_enter Try.func17, Try.ntmps17
    go_wp2_with fail
    go_ret
    exact ⟨ret_int (by rw [H1.out]), Below.al (Below.refl _ _) _⟩
  | succ k ih =>
    intro w hk
    obtain ⟨b0, b1, b2, f0, f1, -, -⟩ := (Bo.may_iff p).1 hp
    have hd := Bo.full_doc p hp k
    have h0 := Bo.full_pos p hp k
    have h1 := (Bo.full_bd p hp (k + 1)).2
    have ih := fun w => ih w (by omega)
    generalize Bo.full p (k + 1) = x at *
    generalize Bo.full p (k + 1 + 1) = y at *
    simp only [] at hd
    obtain ⟨ha, hb⟩ := Bo.mul_bd x p.factor (by omega) f0 f1
    obtain ⟨m, hm⟩ : ∃ m, m = x * p.factor := ⟨_, rfl⟩
    rw [← hm] at ha hb hd
    have hwm : IntKind.i64.wrap (x * p.factor) = m := by rw [← hm]; exact IntWalk.i64_in _ (by omega)
    have hq : (((k + 1 : Nat) : Int) + 1 == 1) = false := beq_false_of_ne (by omega)
    have hq1 : ((k + 1 : Nat) : Int) + 1 - 1 = (k : Int) + 1 := by omega
    have HD := Lib.hid hd
    have HW := Lib.hid hwm
    clear hd hm
    unfold planV
    go_enter Try.func17, Try.ntmps17
    go_wp2_with fail
    refine (ih _).mono ?_
    rintro e w1 ⟨rfl, hc⟩
    obtain ⟨c0, c1, c2, c3, c4⟩ := ((PlanAt.new w 26 p).keep hc).facts
    clear hwm
    have hwm : IntKind.i64.wrap (x * p.factor) = m := HW.out
    go_wp2_with fail
    all_goals
      go_ret
      exact ⟨ret_int (by rw [HD.out]; (repeat' split) <;> omega), Below.call (Below.al (Below.refl _ _) _) hc⟩
set_option maxRecDepth 100000 in
theorem refWait_any (p : Bo.Plan) (hp : Bo.may p = true) (k : Int) (n : Nat) (hn : n ≤ 2000) (w : World) : Calls Try.prog 10 #[planV p, .int .u64 k, .int .i64 ((n : Int) + 1)] w fun e w' => e = .returned (.int .i64 (Bo.wait p k ((n : Int) + 1) (Bo.full p (n + 1)))) ∧ Below w.heap.size w w' := by
  have hm := (Bo.may_iff p).1 hp
  have h0 := (Bo.full_bd p hp (n + 1)).1
  have h1 := (Bo.full_bd p hp (n + 1)).2
  have hF := refFull_any p hp n
  generalize Bo.full p (n + 1) = f at *
  obtain ⟨-, -, hcap, -, -, hs0, hs1⟩ := hm
  obtain ⟨m, hmm⟩ : ∃ m, m = f * p.spread := ⟨_, rfl⟩
  have hm0 : 0 ≤ m := by rw [hmm]; exact Int.mul_nonneg h0 hs0
  have hm1 : m ≤ 604800 * 100 := by rw [hmm]; exact Int.mul_le_mul (by omega) hs1 hs0 (by omega)
  have hwm : IntKind.i64.wrap (f * p.spread) = m := by rw [← hmm]; exact IntWalk.i64_in _ (by omega)
  obtain ⟨d, hd⟩ : ∃ d, d = Bo.drawn p k ((n : Int) + 1) := ⟨_, rfl⟩
  have hdU := Bo.u_drawn p k ((n : Int) + 1)
  have hw : Bo.wait p k ((n : Int) + 1) f = max (f - d % (m / 100 + 1)) 1 := by unfold Bo.wait; rw [hmm, hd]
  rw [← hd] at hdU
  obtain ⟨hd0, hd1⟩ := hdU
  obtain ⟨hr0, hr1⟩ := mod_bd d (m / 100) (by omega)
  obtain ⟨r, hr⟩ : ∃ r, d % (m / 100 + 1) = r := ⟨_, rfl⟩
  rw [hr] at hr0 hr1
  have HW := Lib.hid hw
  have HD := Lib.hid hd
  have HM := Lib.hid hwm
  have HR := Lib.hid hr
  clear hw hd hmm hwm hr
  unfold planV
  go_enter Try.func10, Try.ntmps10
  go_wp2_with fail
  refine (hF _ hn).mono ?_
  clear hF
  rintro e w1 ⟨rfl, hc⟩
  have hP := (PlanAt.new w 26 p).keep hc
  obtain ⟨c0, c1, c2, c3, c4⟩ := hP.facts
  have hwm : IntKind.i64.wrap (f * p.spread) = m := HM.out
  go_wp2_with fail
  refine (refDrawn_any _ _ _ _).mono ?_
  rw [← HD.out]
  rintro e w2 ⟨rfl, hc2⟩
  have hr : d % (m / 100 + 1) = r := HR.out
  clear hwm
  go_wp2_with fail
  all_goals
    go_ret
    exact ⟨ret_int (by rw [HW.out, HR.out]; omega), Below.call (Below.call (Below.al (Below.refl _ _) _) hc) hc2⟩
set_option maxRecDepth 100000 in
theorem ten_any (w : World) : Calls Try.prog 18 #[] w fun e w' => e = .returned (planV ⟨10, 100, 200, 0, 0⟩) ∧ Below w.heap.size w w' := by
  go_enter Try.func18, Try.ntmps18
  go_wp2_with fail
  exact bodyPost_ret (v := planV ⟨10, 100, 200, 0, 0⟩) (by simp [results, Try.results18, go_sem]) rfl ⟨rfl, Below.al (Below.refl _ _) _⟩
/-- why a plan, or an attempt, may not be -/
def badN (p : Bo.Plan) (n : Int) : Int := if Bo.may p = true then (if 1 ≤ n ∧ n ≤ 1000 then 0 else 50) else 2
set_option maxRecDepth 100000 in
theorem bad_any (p : Bo.Plan) (n : Int) (w : World) : Calls Try.prog 24 #[planV p, .int .i64 n] w fun e w' => e = .returned (.int .i64 (badN p n)) ∧ Below w.heap.size w w' := by
  obtain ⟨b, hb⟩ : ∃ b, badN p n = b := ⟨_, rfl⟩
  rw [hb]
  have HB := Lib.hid hb
  clear hb
  cases hp : Bo.may p with
  | false =>
    have HP := Lib.hid hp
    unfold planV
    go_enter Try.func24, Try.ntmps24
    go_wp2_with fail
    refine (may_any _ _).mono ?_
    rw [hp]
    rintro e w1 ⟨rfl, hc⟩
    clear hp
    go_wp2_with fail
    go_ret
    exact ⟨ret_int (by rw [← HB.out]; unfold badN; rw [HP.out]; rfl), Below.call (Below.al (Below.refl _ _) _) hc⟩
  | true =>
    have HP := Lib.hid hp
    unfold planV
    go_enter Try.func24, Try.ntmps24
    go_wp2_with fail
    refine (may_any _ _).mono ?_
    rw [hp]
    rintro e w1 ⟨rfl, hc⟩
    clear hp
    go_wp2_with fail
    all_goals
      go_ret
      exact ⟨ret_int (by rw [← HB.out]; unfold badN; rw [if_pos HP.out]; split <;> omega), Below.call (Below.al (Below.refl _ _) _) hc⟩
end Go.Proofs.Ytejaiaoiceknlaa
