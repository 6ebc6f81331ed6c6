/- Whether rows of entries are the same. -/
import Derived.Test.YtlcnjinabfbglaaR7
namespace Go.Proofs.Ytlcnjinabfbglaa
open Go.RowKit
def Rp.sameE (a b : Rp.Ent) : Bool := a.idx == b.idx && (a.term == b.term && a.body == b.body)
theorem Rp.sameE_iff (a b : Rp.Ent) : Rp.sameE a b = true ↔ a = b := by
  obtain ⟨a1, a2, a3⟩ := a
  obtain ⟨b1, b2, b3⟩ := b
  simp [Rp.sameE]
theorem natBeq (x y : Nat) : ((x : Int) == (y : Int)) = (x == y) := by
  rw [Bool.eq_iff_iff]; simp; omega
set_option maxRecDepth 100000 in
set_option maxHeartbeats 2000000 in
theorem walSame_any (x y : EV) (w : World) (hx : EvOk w x) (hy : EvOk w y) : Calls Try.prog 74 #[entV x, entV y] w fun r w' => r = .returned (.bool (Rp.sameE x.ent y.ent)) ∧ Below w.heap.size w w' := by
  obtain ⟨i, t, v, body⟩ := x
  obtain ⟨i', t', v', body'⟩ := y
  have hB : Bts w v body := hx.1
  have hB' : Bts w v' body' := hy.1
  obtain ⟨ao, cap, rfl, -, -, -⟩ := hB.form
  obtain ⟨bo, bcap, rfl, -, -, -⟩ := hB'.form
  have hal := Below.al (Below.refl w.heap.size w) (.cells #[u64 i, u64 t, .slice ao body.length cap] 79)
  have hal2 := Below.al hal (.cells #[u64 i', u64 t', .slice bo body'.length bcap] 79)
  have hB1 := hB.keep hal2
  have hB1' := hB'.keep hal2
  show Calls Try.prog 74 #[.agg #[u64 i, u64 t, .slice ao body.length cap], .agg #[u64 i', u64 t', .slice bo body'.length bcap]] w fun r w' => r = .returned (.bool ((i == i') && ((t == t') && (body == body')))) ∧ Below w.heap.size w w'
  have e1 := natBeq i i'
  have e2 := natBeq t t'
  clear hx hy hB hB' hal
  cases q1 : i == i' with
  | false =>
    rw [q1] at e1
    clear q1
    go_enter Try.func74, Try.ntmps74
    go_wp2_with fail
    go_ret
    exact ⟨rfl, hal2⟩
  | true =>
    rw [q1] at e1
    clear q1
    cases q2 : t == t' with
    | false =>
      rw [q2] at e2
      clear q2
      go_enter Try.func74, Try.ntmps74
      go_wp2_with fail
      go_ret
      exact ⟨rfl, hal2⟩
    | true =>
      rw [q2] at e2
      clear q2
      have hE := equalB_any _ _ body body' _ hB1 hB1'
      generalize (body == body') = q at hE ⊢
      go_enter Try.func74, Try.ntmps74
      go_wp2_with (go_at_call 53; refine hE.mono ?_; rintro r w1 ⟨rfl, hc⟩)
      go_ret
      exact ⟨rfl, Below.call hal2 hc⟩
set_option maxRecDepth 100000 in
set_option maxHeartbeats 2000000 in
theorem refWalSame_any (x y : EV) (w : World) (hx : EvOk w x) (hy : EvOk w y) : Calls Try.prog 80 #[entV x, entV y] w fun r w' => r = .returned (.bool (Rp.sameE x.ent y.ent)) ∧ Below w.heap.size w w' := by
  obtain ⟨i, t, v, body⟩ := x
  obtain ⟨i', t', v', body'⟩ := y
  have hB : Bts w v body := hx.1
  have hB' : Bts w v' body' := hy.1
  obtain ⟨ao, cap, rfl, -, -, -⟩ := hB.form
  obtain ⟨bo, bcap, rfl, -, -, -⟩ := hB'.form
  have hal := Below.al (Below.refl w.heap.size w) (.cells #[u64 i, u64 t, .slice ao body.length cap] 79)
  have hal2 := Below.al hal (.cells #[u64 i', u64 t', .slice bo body'.length bcap] 79)
  have k1 := conv_str (hB.keep hal2)
  have k2 := conv_str (hB'.keep hal2)
  show Calls Try.prog 80 #[.agg #[u64 i, u64 t, .slice ao body.length cap], .agg #[u64 i', u64 t', .slice bo body'.length bcap]] w fun r w' => r = .returned (.bool ((i == i') && ((t == t') && (body == body')))) ∧ Below w.heap.size w w'
  have e1 := natBeq i i'
  have e2 := natBeq t t'
  clear hx hy hB hB' hal
  cases q1 : i == i' with
  | false =>
    rw [q1] at e1
    clear q1
    go_enter Try.func80, Try.ntmps80
    go_wp2_with fail
    go_ret
    exact ⟨rfl, hal2⟩
  | true =>
    rw [q1] at e1
    clear q1
    cases q2 : t == t' with
    | false =>
      rw [q2] at e2
      clear q2
      go_enter Try.func80, Try.ntmps80
      go_wp2_with fail
      go_ret
      exact ⟨rfl, hal2⟩
    | true =>
      rw [q2] at e2
      clear q2
      cases hq : (body == body') with
      | false =>
        go_enter Try.func80, Try.ntmps80
        go_wp2_with fail
        go_ret
        exact ⟨rfl, hal2⟩
      | true =>
        go_enter Try.func80, Try.ntmps80
        go_wp2_with fail
        go_ret
        exact ⟨rfl, hal2⟩
end Go.Proofs.Ytlcnjinabfbglaa
namespace Go.Proofs.Ytlcnjinabfbglaa
open Go.RowKit
deriving instance DecidableEq for Rp.Ent
deriving instance DecidableEq for Rp.Msg
theorem sameE_dec (a b : Rp.Ent) : Rp.sameE a b = decide (a = b) := by
  rw [Bool.eq_iff_iff, Rp.sameE_iff, decide_eq_true_iff]
set_option maxRecDepth 100000 in
set_option maxHeartbeats 2000000 in
theorem shotSame_any (i t i' t' : Nat) (v v' : Value) (body body' : List UInt8) (w : World) (hB : Bts w v body) (hB' : Bts w v' body') : Calls Try.prog 72 #[.agg #[u64 i, u64 t, v], .agg #[u64 i', u64 t', v']] w fun r w' => r = .returned (.bool ((i == i') && ((t == t') && (body == body')))) ∧ Below w.heap.size w w' := by
  obtain ⟨ao, cap, rfl, -, -, -⟩ := hB.form
  obtain ⟨bo, bcap, rfl, -, -, -⟩ := hB'.form
  have hal := Below.al (Below.refl w.heap.size w) (.cells #[u64 i, u64 t, .slice ao body.length cap] 60)
  have hal2 := Below.al hal (.cells #[u64 i', u64 t', .slice bo body'.length bcap] 60)
  have k1 := conv_str (hB.keep hal2)
  have k2 := conv_str (hB'.keep hal2)
  have e1 := natBeq i i'
  have e2 := natBeq t t'
  clear hB hB' hal
  cases q1 : i == i' with
  | false =>
    rw [q1] at e1
    clear q1
    go_enter Try.func72, Try.ntmps72
    go_wp2_with fail
    go_ret
    exact ⟨rfl, hal2⟩
  | true =>
    rw [q1] at e1
    clear q1
    cases q2 : t == t' with
    | false =>
      rw [q2] at e2
      clear q2
      go_enter Try.func72, Try.ntmps72
      go_wp2_with fail
      go_ret
      exact ⟨rfl, hal2⟩
    | true =>
      rw [q2] at e2
      clear q2
      cases hq : (body == body') with
      | false =>
        go_enter Try.func72, Try.ntmps72
        go_wp2_with fail
        go_ret
        exact ⟨rfl, hal2⟩
      | true =>
        go_enter Try.func72, Try.ntmps72
        go_wp2_with fail
        go_ret
        exact ⟨rfl, hal2⟩
set_option maxRecDepth 100000 in
set_option maxHeartbeats 2000000 in
theorem equalN_any (va vb : Value) (a b : List Nat) (w : World) (hA : Nums w va a) (hB : Nums w vb b) :
    Calls Try.prog 75 #[va, vb] w fun e w' => e = .returned (.bool (a == b)) ∧ Below w.heap.size w w' := by
  obtain ⟨ao, ca, rfl, a1, a2, a3⟩ := hA.form
  obtain ⟨bo, cb, rfl, b1, b2, b3⟩ := hB.form
  unfold maxLen at a2 b2
  by_cases hl : a.length = b.length
  · have h1 : ((a.length : Int) == (b.length : Int)) = true := by simp; omega
    have HL := Lib.hid hl
    clear hl
    go_enter Try.func75, Try.ntmps75
    go_wp2_with fail
    go_loopw [13] (fun i wr => ∃ k : Nat, k ≤ a.length ∧ i = .int .i64 k ∧ Below w.heap.size w wr ∧ ∀ j, j < k → a.getD j 0 = b.getD j 0) (fun i _ => a.length - (intOf i).toNat)
    case atStart => exact ⟨0, Nat.zero_le _, rfl, Below.refl _ _, by omega⟩
    case round =>
      obtain ⟨k, hk, rfl, hbel, hsame⟩ := hrel
      by_cases hlt : k < a.length
      · have hlt' : (k : Int) < (a.length : Int) := by omega
        have hltb' : (k : Int) < (b.length : Int) := by have := HL.out; omega
        obtain ⟨ba, offa, rfl, hbla, hca⟩ := Nums.at (hA.keep hbel) (by omega)
        obtain ⟨bb, offb, rfl, hblb, hcb⟩ := Nums.at (hB.keep hbel) (by have := HL.out; omega)
        have hcak := hca k hlt
        have hcbk := hcb k (by omega)
        obtain ⟨x, hx⟩ : ∃ x, x = a.getD k 0 := ⟨_, rfl⟩
        obtain ⟨y, hy⟩ : ∃ y, y = b.getD k 0 := ⟨_, rfl⟩
        rw [← hx] at hcak
        rw [← hy] at hcbk
        have HX := Lib.hid hx
        have HY := Lib.hid hy
        have HS := Lib.hid hsame
        clear hca hcb hx hy hsame
        by_cases hxy : x = y
        · subst hxy
          go_wp2_with fail
          go_region
          all_goals go_wp2_with fail
          all_goals exact ⟨⟨k + 1, by omega, by go_num, hbel.drew, fun j hj => by
            by_cases hjk : j = k
            · subst hjk; rw [← HX.out, ← HY.out]
            · exact HS.out j (by omega)⟩, by simp [intOf]; omega⟩
        · have hne : ((x : Int) == (y : Int)) = false := by rw [natBeq, beq_eq_false_iff_ne]; exact hxy
          have hab : (a == b) = false := by
            rw [beq_eq_false_iff_ne]
            rintro rfl
            exact hxy (HX.out.trans HY.out.symm)
          have HAB := Lib.hid hab
          clear hab hxy
          go_wp2_with fail
          go_region
          all_goals go_wp2_with fail
          all_goals go_ret
          all_goals exact ⟨ret_bool HAB.out.symm, hbel.drew⟩
      · have hkn : k = a.length := by omega
        subst hkn
        have hab : (a == b) = true := by
          rw [beq_iff_eq]
          apply List.ext_getElem HL.out
          intro i h1 h2
          have := hsame i h1
          simpa [h1, h2] using this
        have HAB := Lib.hid hab
        clear hab hsame
        go_wp2_with fail
        go_ret
        exact ⟨ret_bool HAB.out.symm, hbel⟩
  · have h1 : ((a.length : Int) == (b.length : Int)) = false := by simp; omega
    have hab : (a == b) = false := by
      rw [beq_eq_false_iff_ne]
      rintro rfl
      exact hl rfl
    rw [hab]
    clear hab hl
    go_enter Try.func75, Try.ntmps75
    go_wp2_with fail
    go_ret
    exact ⟨rfl, Below.refl _ _⟩
set_option maxRecDepth 100000 in
set_option maxHeartbeats 2000000 in
theorem refEqualN_any (va vb : Value) (a b : List Nat) (w : World) (hA : Nums w va a) (hB : Nums w vb b) :
    Calls Try.prog 71 #[va, vb] w fun e w' => e = .returned (.bool (a == b)) ∧ Below w.heap.size w w' := by
  obtain ⟨ao, ca, rfl, a1, a2, a3⟩ := hA.form
  obtain ⟨bo, cb, rfl, b1, b2, b3⟩ := hB.form
  unfold maxLen at a2 b2
  by_cases hl : a.length = b.length
  · have h1 : ((a.length : Int) == (b.length : Int)) = true := by simp; omega
    have HL := Lib.hid hl
    clear hl
    go_enter Try.func71, Try.ntmps71
    go_wp2_with fail
    go_loopw [5] (fun i wr => ∃ k : Nat, k ≤ a.length ∧ i = .int .i64 k ∧ Below w.heap.size w wr ∧ ∀ j, j < k → a.getD j 0 = b.getD j 0) (fun i _ => a.length - (intOf i).toNat)
    case atStart => exact ⟨0, Nat.zero_le _, rfl, Below.refl _ _, by omega⟩
    case round =>
      obtain ⟨k, hk, rfl, hbel, hsame⟩ := hrel
      by_cases hlt : k < a.length
      · have hlt' : (k : Int) < (a.length : Int) := by omega
        have hltb' : (k : Int) < (b.length : Int) := by have := HL.out; omega
        obtain ⟨ba, offa, rfl, hbla, hca⟩ := Nums.at (hA.keep hbel) (by omega)
        obtain ⟨bb, offb, rfl, hblb, hcb⟩ := Nums.at (hB.keep hbel) (by have := HL.out; omega)
        have hcak := hca k hlt
        have hcbk := hcb k (by omega)
        obtain ⟨x, hx⟩ : ∃ x, x = a.getD k 0 := ⟨_, rfl⟩
        obtain ⟨y, hy⟩ : ∃ y, y = b.getD k 0 := ⟨_, rfl⟩
        rw [← hx] at hcak
        rw [← hy] at hcbk
        have HX := Lib.hid hx
        have HY := Lib.hid hy
        have HS := Lib.hid hsame
        clear hca hcb hx hy hsame
        by_cases hxy : x = y
        · subst hxy
          go_wp2_with fail
          go_region
          all_goals go_wp2_with fail
          all_goals exact ⟨⟨k + 1, by omega, by go_num, hbel.drew, fun j hj => by
            by_cases hjk : j = k
            · subst hjk; rw [← HX.out, ← HY.out]
            · exact HS.out j (by omega)⟩, by simp [intOf]; omega⟩
        · have hne : ((x : Int) == (y : Int)) = false := by rw [natBeq, beq_eq_false_iff_ne]; exact hxy
          have hab : (a == b) = false := by
            rw [beq_eq_false_iff_ne]
            rintro rfl
            exact hxy (HX.out.trans HY.out.symm)
          have HAB := Lib.hid hab
          clear hab hxy
          go_wp2_with fail
          go_region
          all_goals go_wp2_with fail
          all_goals go_ret
          all_goals exact ⟨ret_bool HAB.out.symm, hbel.drew⟩
      · have hkn : k = a.length := by omega
        subst hkn
        have hab : (a == b) = true := by
          rw [beq_iff_eq]
          apply List.ext_getElem HL.out
          intro i h1 h2
          have := hsame i h1
          simpa [h1, h2] using this
        have HAB := Lib.hid hab
        clear hab hsame
        go_wp2_with fail
        go_ret
        exact ⟨ret_bool HAB.out.symm, hbel⟩
  · have h1 : ((a.length : Int) == (b.length : Int)) = false := by simp; omega
    have hab : (a == b) = false := by
      rw [beq_eq_false_iff_ne]
      rintro rfl
      exact hl rfl
    rw [hab]
    clear hab hl
    go_enter Try.func71, Try.ntmps71
    go_wp2_with fail
    go_ret
    exact ⟨rfl, Below.refl _ _⟩
end Go.Proofs.Ytlcnjinabfbglaa
namespace Go.Proofs.Ytlcnjinabfbglaa
open Go.RowKit
theorem ents_same (xs ys : List EV) (hl : xs.length = ys.length) (h : ∀ j, j < xs.length → (xs.map EV.ent)[j]? = (ys.map EV.ent)[j]?) : xs.map EV.ent = ys.map EV.ent := by
  apply List.ext_getElem?
  intro i
  by_cases hi : i < xs.length
  · exact h i hi
  · rw [List.getElem?_eq_none (by simp; omega), List.getElem?_eq_none (by simp; omega)]
theorem ents_not (xs ys : List EV) (j : Nat) (x y : EV) (hx : xs[j]? = some x) (hy : ys[j]? = some y) (h : Rp.sameE x.ent y.ent = false) : decide (xs.map EV.ent = ys.map EV.ent) = false := by
  rw [decide_eq_false_iff_not]
  intro he
  have h1 := congrArg (fun l => l[j]?) he
  simp only [List.getElem?_map, hx, hy, Option.map_some, Option.some.injEq] at h1
  rw [h1, (Rp.sameE_iff _ _).2 rfl] at h
  cases h
set_option maxRecDepth 100000 in
set_option maxHeartbeats 2000000 in
theorem equalFunc_any (va vb : Value) (xs ys : List EV) (w : World) (hA : Ents w va xs) (hB : Ents w vb ys) :
    Calls Try.prog 73 #[va, vb, .func (.func 74) #[] #[]] w fun e w' => e = .returned (.bool (decide (xs.map EV.ent = ys.map EV.ent))) ∧ Below w.heap.size w w' := by
  obtain ⟨ao, ca, rfl, a1, a2, a3⟩ := hA.form
  obtain ⟨bo, cb, rfl, b1, b2, b3⟩ := hB.form
  unfold maxLen at a2 b2
  by_cases hl : xs.length = ys.length
  · have h1 : ((xs.length : Int) == (ys.length : Int)) = true := by simp; omega
    have HL := Lib.hid hl
    clear hl
    go_enter Try.func73, Try.ntmps73
    go_wp2_with fail
    rw [show ((xs.length : Int) != (ys.length : Int)) = false from by have := HL.out; simp; omega]
    go_loopw [17] (fun i wr => ∃ k : Nat, k ≤ xs.length ∧ i = .int .i64 k ∧ Below w.heap.size w wr ∧ ∀ j, j < k → (xs.map EV.ent)[j]? = (ys.map EV.ent)[j]?) (fun i _ => xs.length - (intOf i).toNat)
    case atStart => exact ⟨0, Nat.zero_le _, rfl, Below.refl _ _, by omega⟩
    case round =>
      obtain ⟨k, hk, rfl, hbel, hsame⟩ := hrel
      by_cases hlt : k < xs.length
      · have hlt' : (k : Int) < (xs.length : Int) := by omega
        have hltb' : (k : Int) < (ys.length : Int) := by have := HL.out; omega
        have hx : xs[k]? = some xs[k] := List.getElem?_eq_getElem hlt
        have hy : ys[k]? = some (ys[k]'(by omega)) := List.getElem?_eq_getElem (by omega)
        obtain ⟨ba, offa, rfl, -, c0, c1, c2, hEx⟩ := Ents.at (hA.keep hbel) hx
        generalize xs[k] = x at *
        obtain ⟨vo, vc, hv, -⟩ := Bts.form hEx.1
        rw [hv] at c2
        have hal := Below.al (Below.refl wr.heap.size wr) (.cells #[u64 x.idx, u64 x.term, .slice vo x.body.length vc] 79)
        obtain ⟨bb, offb, rfl, -, d0, d1, d2, hEy⟩ := Ents.at ((hB.keep hbel).keep hal) hy
        generalize ys[k]'(by omega) = y at *
        obtain ⟨uo, uc, hu, -⟩ := Bts.form hEy.1
        rw [hu] at d2
        have hal2 := Below.al (Below.refl _ _) (w := wr.alloc (.cells #[u64 x.idx, u64 x.term, .slice vo x.body.length vc] 79)) (.cells #[u64 y.idx, u64 y.term, .slice uo y.body.length uc] 79)
        have hW := walSame_any x y _ ((hEx.keep hal).keep hal2) (hEy.keep hal2)
        unfold entV at hW
        rw [hv, hu] at hW
        have hal3 := hal.trans (hal2.mono hal.size)
        have HS := Lib.hid hsame
        have HN := Lib.hid (ents_not xs ys k x y hx hy)
        have hxy : Rp.sameE x.ent y.ent = true → (xs.map EV.ent)[k]? = (ys.map EV.ent)[k]? := fun h => by
          rw [List.getElem?_map, List.getElem?_map, hx, hy, Option.map_some, Option.map_some, (Rp.sameE_iff _ _).1 h]
        clear hsame hx hy hEx hEy hal hal2
        cases hq : Rp.sameE x.ent y.ent with
        | true =>
          rw [hq] at hW
          have HX := Lib.hid (hxy hq)
          clear hxy hq HN
          go_wp2_with (go_at_call 74; refine hW.mono ?_; rintro r w1 ⟨rfl, hc⟩)
          exact ⟨⟨k + 1, by omega, by go_num, Below.call (Below.call hbel hal3) hc, fun j hj => by
            by_cases hjk : j = k
            · subst hjk; exact HX.out
            · exact HS.out j (by omega)⟩, by simp [intOf]; omega⟩
        | false =>
          rw [hq] at hW
          have HM := Lib.hid (HN.out hq)
          clear hxy hq HN
          go_wp2_with (go_at_call 74; refine hW.mono ?_; rintro r w1 ⟨rfl, hc⟩)
          go_ret
          exact ⟨ret_bool HM.out.symm, Below.call (Below.call hbel hal3) hc⟩
      · have hkn : k = xs.length := by omega
        subst hkn
        have hab : decide (xs.map EV.ent = ys.map EV.ent) = true := decide_eq_true (ents_same xs ys HL.out hsame)
        have HAB := Lib.hid hab
        clear hab hsame
        go_wp2_with fail
        go_ret
        exact ⟨ret_bool HAB.out.symm, hbel⟩
  · have h1 : ((xs.length : Int) == (ys.length : Int)) = false := by simp; omega
    have hab : decide (xs.map EV.ent = ys.map EV.ent) = false := by
      rw [decide_eq_false_iff_not]
      intro he
      have := congrArg List.length he
      simp at this
      exact hl this
    rw [hab]
    clear hab hl
    go_enter Try.func73, Try.ntmps73
    go_wp2_with fail
    go_ret
    exact ⟨rfl, Below.refl _ _⟩
end Go.Proofs.Ytlcnjinabfbglaa
