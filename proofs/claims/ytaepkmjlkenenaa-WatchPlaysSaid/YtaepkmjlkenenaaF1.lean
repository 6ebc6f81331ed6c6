import Derived.Test.YtaepkmjlkenenaaFi
import Derived.Test.YtaepkmjlkenenaaSr
import Derived.Test.YtaepkmjlkenenaaRows
import Derived.Deep.DeepCutAuto
import Derived.Deep.CutBlock
namespace Go.Proofs.Ytaepkmjlkenenaa
open Go.RowKit

def fireC (f : Fi.Fire) : List Value := [.int .u64 f.job, .int .i64 f.at', .int .i64 f.state, .int .i64 f.att, .int .u64 f.tok, .int .u64 f.wk, .int .i64 f.til]
theorem fireC_len (f : Fi.Fire) : (fireC f).length = 7 := rfl
abbrev fireV (f : Fi.Fire) : Value := .agg #[.int .u64 f.job, .int .i64 f.at', .int .i64 f.state, .int .i64 f.att, .int .u64 f.tok, .int .u64 f.wk, .int .i64 f.til]
abbrev fireO (f : Fi.Fire) : Obj := .cells #[.int .u64 f.job, .int .i64 f.at', .int .i64 f.state, .int .i64 f.att, .int .u64 f.tok, .int .u64 f.wk, .int .i64 f.til] 58
abbrev Fires (w : World) (v : Value) (l : List Fi.Fire) : Prop := Row fireC w v l
theorem Fires.at {w : World} {ao : Option Addr} {n cap : Nat} {l : List Fi.Fire} (h : Fires w (.slice ao n cap) l) (hl : 0 < l.length) :
    ∃ b off, ao = some ⟨b, off, none⟩ ∧ b < w.heap.size ∧ ∀ i (hi : i < l.length), w.cell? ⟨b, off + i * 7, none⟩ = some (.int .u64 l[i].job) ∧ w.cell? ⟨b, off + i * 7 + 1, none⟩ = some (.int .i64 l[i].at') ∧ w.cell? ⟨b, off + i * 7 + 2, none⟩ = some (.int .i64 l[i].state) ∧
      w.cell? ⟨b, off + i * 7 + 3, none⟩ = some (.int .i64 l[i].att) ∧ w.cell? ⟨b, off + i * 7 + 4, none⟩ = some (.int .u64 l[i].tok) ∧ w.cell? ⟨b, off + i * 7 + 5, none⟩ = some (.int .u64 l[i].wk) ∧ w.cell? ⟨b, off + i * 7 + 6, none⟩ = some (.int .i64 l[i].til) := by
  obtain ⟨b, off, h1, h2, h3⟩ := Row.at fireC_len (by omega) h hl
  refine ⟨b, off, h1, h2, fun i hi => ?_⟩
  have h4 := h3 i l[i] (List.getElem?_eq_getElem hi)
  exact ⟨h4 0 _ rfl, h4 1 _ rfl, h4 2 _ rfl, h4 3 _ rfl, h4 4 _ rfl, h4 5 _ rfl, h4 6 _ rfl⟩
/-- a sum in memory -/
def SumAt (w : World) (b : Nat) (s : Fi.Sum) (done failed skipped tries first last : Int) : Prop :=
  w.heap[b]? = some (.cells #[.int .i64 s.due, .int .i64 s.run, .int .i64 done, .int .i64 failed, .int .i64 skipped, .int .i64 tries, .int .i64 first, .int .i64 last, .int .i64 s.streak] 77 (0, 0))
theorem SumAt.facts {w : World} {b : Nat} {s : Fi.Sum} {done failed skipped tries first last : Int} (h : SumAt w b s done failed skipped tries first last) :
    w.cell? ⟨b, 0, none⟩ = some (.int .i64 s.due) ∧ w.cell? ⟨b, 1, none⟩ = some (.int .i64 s.run) ∧ w.cell? ⟨b, 2, none⟩ = some (.int .i64 done) ∧ w.cell? ⟨b, 3, none⟩ = some (.int .i64 failed) ∧ w.cell? ⟨b, 4, none⟩ = some (.int .i64 skipped) ∧
    w.cell? ⟨b, 5, none⟩ = some (.int .i64 tries) ∧ w.cell? ⟨b, 6, none⟩ = some (.int .i64 first) ∧ w.cell? ⟨b, 7, none⟩ = some (.int .i64 last) ∧ w.cell? ⟨b, 8, none⟩ = some (.int .i64 s.streak) := by
  refine ⟨?_, ?_, ?_, ?_, ?_, ?_, ?_, ?_, ?_⟩ <;> (rw [cell_of_row w b _ _ 77 (0, 0) h]; rfl)
theorem SumAt.froz {w : World} {b : Nat} {s : Fi.Sum} {done failed skipped tries first last : Int} (h : SumAt w b s done failed skipped tries first last) (i : Nat) : w.frozen? ⟨b, i, none⟩ = false := frozen_of_row w b i _ 77 h
theorem SumAt.lt {w : World} {b : Nat} {s : Fi.Sum} {done failed skipped tries first last : Int} (h : SumAt w b s done failed skipped tries first last) : b < w.heap.size := (Array.getElem?_eq_some_iff.1 h).1
theorem SumAt.keep {w w' : World} {b : Nat} {s : Fi.Sum} {done failed skipped tries first last : Int} (h : SumAt w b s done failed skipped tries first last) (hb : Below w.heap.size w w') : SumAt w' b s done failed skipped tries first last := by
  unfold SumAt; rw [hb.block _ h.lt]; exact h
theorem SumAt.set0 {w : World} {b : Nat} {s : Fi.Sum} {done failed skipped tries first last : Int} (h : SumAt w b s done failed skipped tries first last) (x : Int) : SumAt (w.setCell ⟨b, 0, none⟩ (.int .i64 x)) b { s with due := x } done failed skipped tries first last := heap_setCell_same w b 0 _ 77 (.int .i64 x) h
theorem SumAt.set1 {w : World} {b : Nat} {s : Fi.Sum} {done failed skipped tries first last : Int} (h : SumAt w b s done failed skipped tries first last) (x : Int) : SumAt (w.setCell ⟨b, 1, none⟩ (.int .i64 x)) b { s with run := x } done failed skipped tries first last := heap_setCell_same w b 1 _ 77 (.int .i64 x) h
theorem SumAt.set2 {w : World} {b : Nat} {s : Fi.Sum} {done failed skipped tries first last : Int} (h : SumAt w b s done failed skipped tries first last) (x : Int) : SumAt (w.setCell ⟨b, 2, none⟩ (.int .i64 x)) b s x failed skipped tries first last := heap_setCell_same w b 2 _ 77 (.int .i64 x) h
theorem SumAt.set3 {w : World} {b : Nat} {s : Fi.Sum} {done failed skipped tries first last : Int} (h : SumAt w b s done failed skipped tries first last) (x : Int) : SumAt (w.setCell ⟨b, 3, none⟩ (.int .i64 x)) b s done x skipped tries first last := heap_setCell_same w b 3 _ 77 (.int .i64 x) h
theorem SumAt.set4 {w : World} {b : Nat} {s : Fi.Sum} {done failed skipped tries first last : Int} (h : SumAt w b s done failed skipped tries first last) (x : Int) : SumAt (w.setCell ⟨b, 4, none⟩ (.int .i64 x)) b s done failed x tries first last := heap_setCell_same w b 4 _ 77 (.int .i64 x) h
theorem SumAt.set5 {w : World} {b : Nat} {s : Fi.Sum} {done failed skipped tries first last : Int} (h : SumAt w b s done failed skipped tries first last) (x : Int) : SumAt (w.setCell ⟨b, 5, none⟩ (.int .i64 x)) b s done failed skipped x first last := heap_setCell_same w b 5 _ 77 (.int .i64 x) h
theorem SumAt.set6 {w : World} {b : Nat} {s : Fi.Sum} {done failed skipped tries first last : Int} (h : SumAt w b s done failed skipped tries first last) (x : Int) : SumAt (w.setCell ⟨b, 6, none⟩ (.int .i64 x)) b s done failed skipped tries x last := heap_setCell_same w b 6 _ 77 (.int .i64 x) h
theorem SumAt.set7 {w : World} {b : Nat} {s : Fi.Sum} {done failed skipped tries first last : Int} (h : SumAt w b s done failed skipped tries first last) (x : Int) : SumAt (w.setCell ⟨b, 7, none⟩ (.int .i64 x)) b s done failed skipped tries first x := heap_setCell_same w b 7 _ 77 (.int .i64 x) h
theorem SumAt.set8 {w : World} {b : Nat} {s : Fi.Sum} {done failed skipped tries first last : Int} (h : SumAt w b s done failed skipped tries first last) (x : Int) : SumAt (w.setCell ⟨b, 8, none⟩ (.int .i64 x)) b { s with streak := x } done failed skipped tries first last := heap_setCell_same w b 8 _ 77 (.int .i64 x) h
theorem SumAt.other {w : World} {b : Nat} {s : Fi.Sum} {done failed skipped tries first last : Int} (h : SumAt w b s done failed skipped tries first last) (a : Addr) (ha : b ≠ a.block) (u : Value) : SumAt (w.setCell a u) b s done failed skipped tries first last := by
  unfold SumAt; rw [Below.heap_setCell _ _ _ _ ha]; exact h
theorem SumAt.mk (w : World) (b : Nat) (h : b = w.heap.size) : SumAt (w.alloc (.cells #[.int .i64 0, .int .i64 0, .int .i64 0, .int .i64 0, .int .i64 0, .int .i64 0, .int .i64 0, .int .i64 0, .int .i64 0] 77)) b ⟨0, 0, 0⟩ 0 0 0 0 0 0 := by
  subst h; unfold SumAt World.alloc; simp
/-- a firing in memory -/
def FireAt (w : World) (b : Nat) (f : Fi.Fire) : Prop := w.heap[b]? = some (.cells #[.int .u64 f.job, .int .i64 f.at', .int .i64 f.state, .int .i64 f.att, .int .u64 f.tok, .int .u64 f.wk, .int .i64 f.til] 58 (0, 0))
theorem FireAt.facts {w : World} {b : Nat} {f : Fi.Fire} (h : FireAt w b f) :
    w.cell? ⟨b, 0, none⟩ = some (.int .u64 f.job) ∧ w.cell? ⟨b, 1, none⟩ = some (.int .i64 f.at') ∧ w.cell? ⟨b, 2, none⟩ = some (.int .i64 f.state) ∧ w.cell? ⟨b, 3, none⟩ = some (.int .i64 f.att) ∧ w.cell? ⟨b, 4, none⟩ = some (.int .u64 f.tok) ∧ w.cell? ⟨b, 5, none⟩ = some (.int .u64 f.wk) ∧ w.cell? ⟨b, 6, none⟩ = some (.int .i64 f.til) := by
  refine ⟨?_, ?_, ?_, ?_, ?_, ?_, ?_⟩ <;> (rw [cell_of_row w b _ _ 58 (0, 0) h]; rfl)
theorem FireAt.lt {w : World} {b : Nat} {f : Fi.Fire} (h : FireAt w b f) : b < w.heap.size := (Array.getElem?_eq_some_iff.1 h).1
theorem FireAt.keep {w w' : World} {b : Nat} {f : Fi.Fire} (h : FireAt w b f) (hb : Below w.heap.size w w') : FireAt w' b f := by
  unfold FireAt; rw [hb.block _ h.lt]; exact h
theorem FireAt.other {w : World} {b : Nat} {f : Fi.Fire} (h : FireAt w b f) (a : Addr) (ha : b ≠ a.block) (u : Value) : FireAt (w.setCell a u) b f := by
  unfold FireAt; rw [Below.heap_setCell _ _ _ _ ha]; exact h
theorem FireAt.new (w : World) (f : Fi.Fire) : FireAt (w.alloc (.cells #[.int .u64 f.job, .int .i64 f.at', .int .i64 f.state, .int .i64 f.att, .int .u64 f.tok, .int .u64 f.wk, .int .i64 f.til] 58)) w.heap.size f := by unfold FireAt World.alloc; simp

set_option maxRecDepth 100000 in
set_option maxHeartbeats 4000000 in
theorem of_any (v : Value) (l : List Fi.Fire) (w : World) (hl : Fires w v l) (hn : l.length ≤ 1000000) :
    Calls Try.prog 35 #[v] w fun e w' => ∃ x2 x3 x4 x5 x6 x7 : Int, e = .returned (.agg #[.int .i64 (Fi.sum l).due, .int .i64 (Fi.sum l).run, .int .i64 x2, .int .i64 x3, .int .i64 x4, .int .i64 x5, .int .i64 x6, .int .i64 x7, .int .i64 (Fi.sum l).streak]) ∧ Below w.heap.size w w' := by
  obtain ⟨ao, cap, rfl, h1, h2, h3⟩ := hl.form
  go_enter Try.func35, Try.ntmps35
  go_wp2_with fail
  have Z : Obj := .cells #[.int .i64 0, .int .i64 0, .int .i64 0, .int .i64 0, .int .i64 0, .int .i64 0, .int .i64 0, .int .i64 0, .int .i64 0] 77
  have R := (SumAt.mk w w.heap.size rfl).keep (Below.al (Below.refl _ _) (.cells #[.int .i64 0, .int .i64 0, .int .i64 0, .int .i64 0, .int .i64 0, .int .i64 0, .int .i64 0, .int .i64 0, .int .i64 0] 77))
  have S := SumAt.mk (w.alloc (.cells #[.int .i64 0, .int .i64 0, .int .i64 0, .int .i64 0, .int .i64 0, .int .i64 0, .int .i64 0, .int .i64 0, .int .i64 0] 77)) (w.heap.size + 1) (by simp)
  have hb0 := Below.al (Below.al (Below.refl w.heap.size w) (.cells #[.int .i64 0, .int .i64 0, .int .i64 0, .int .i64 0, .int .i64 0, .int .i64 0, .int .i64 0, .int .i64 0, .int .i64 0] 77)) (.cells #[.int .i64 0, .int .i64 0, .int .i64 0, .int .i64 0, .int .i64 0, .int .i64 0, .int .i64 0, .int .i64 0, .int .i64 0] 77)
  clear Z
  obtain ⟨b, hB⟩ : ∃ b, w.heap.size = b := ⟨_, rfl⟩
  rw [hB] at R S hb0 ⊢
  generalize (w.alloc (.cells #[.int .i64 0, .int .i64 0, .int .i64 0, .int .i64 0, .int .i64 0, .int .i64 0, .int .i64 0, .int .i64 0, .int .i64 0] 77)).alloc (.cells #[.int .i64 0, .int .i64 0, .int .i64 0, .int .i64 0, .int .i64 0, .int .i64 0, .int .i64 0, .int .i64 0, .int .i64 0] 77) = W0 at *
  go_loopw [8] (fun i wr => ∃ (k : Nat) (d f s t fi la : Int), i = .int .i64 k ∧ k ≤ l.length ∧ SumAt wr (b + 1) (Fi.sum (l.take k)) d f s t fi la ∧ SumAt wr b ⟨0, 0, 0⟩ 0 0 0 0 0 0 ∧ 0 ≤ d ∧ d ≤ k ∧ 0 ≤ f ∧ f ≤ k ∧ 0 ≤ s ∧ s ≤ k ∧ 0 ≤ t ∧ t ≤ 1099511627776 ∧ Below b w wr) (fun i _ => l.length - (intOf i).toNat)
  case atStart => exact ⟨0, 0, 0, 0, 0, 0, 0, rfl, Nat.zero_le _, by simpa [Fi.sum] using S, R, by omega, by omega, by omega, by omega, by omega, by omega, by omega, by omega, hb0⟩
  case round =>
    clear R S hb0
    obtain ⟨k, d, fa, sk, t, fi, la, rfl, hk, S, R, hd0, hd1, hf0, hf1, hs0, hs1, ht0, ht1, hbr⟩ := hrel
    by_cases hlt : k < l.length
    · have hlt' : (k : Int) < (l.length : Int) := by omega
      obtain ⟨bl, off, rfl, hbl, hca⟩ := Fires.at (hl.keep (hB ▸ hbr)) (by omega)
      obtain ⟨c0, c1, c2, c3, c4, c5, c6⟩ := hca k hlt
      have hts : Fi.sum (l.take (k + 1)) = Fi.step (Fi.sum (l.take k)) l[k] := by rw [Fi.take_snoc l k hlt, Fi.sum_snoc]
      obtain ⟨e0, e1, e2, e3, e4, e5⟩ := Fi.sum_bd (l.take k)
      have htl : (l.take k).length = k := by rw [List.length_take]; omega
      rw [htl] at e1 e3 e5
      generalize l[k] = x at *
      generalize Fi.sum (l.take k) = sm at *
      have HT := Lib.hid hts
      have hX := FireAt.new wr x
      have hal := Below.al (Below.refl wr.heap.size wr) (.cells #[.int .u64 x.job, .int .i64 x.at', .int .i64 x.state, .int .i64 x.att, .int .u64 x.tok, .int .u64 x.wk, .int .i64 x.til] 58)
      replace hbr := hbr.trans (hal.mono (by have := S.lt; omega))
      have hbX : b + 1 < wr.heap.size := S.lt
      replace S := S.keep hal
      replace R := R.keep hal
      clear hca hts htl
      have hX' := hX
      go_upto_block 2 with fail
      generalize wr.alloc (.cells #[.int .u64 x.job, .int .i64 x.at', .int .i64 x.state, .int .i64 x.att, .int .u64 x.tok, .int .u64 x.wk, .int .i64 x.til] 58) = W1 at *
      generalize hbXe : wr.heap.size = bX at *
      clear hal c0 c1 c2 c3 c4 c5 c6
      obtain ⟨x0, x1, x2, x3, x4, x5, x6⟩ := hX.facts
      go_cut [] (fun wx => ∃ d' f' s' : Int, SumAt wx (b + 1) (Fi.step sm x) d' f' s' t fi la ∧ SumAt wx b ⟨0, 0, 0⟩ 0 0 0 0 0 0 ∧ FireAt wx bX x ∧ 0 ≤ d' ∧ d' ≤ (k : Int) + 1 ∧ 0 ≤ f' ∧ f' ≤ (k : Int) + 1 ∧ 0 ≤ s' ∧ s' ≤ (k : Int) + 1 ∧ Below b w wx)
      case first =>
        obtain ⟨g0, g1, g2, g3, g4, g5, g6, g7, g8⟩ := S.facts
        have z0 := S.froz 0
        have z1 := S.froz 1
        have z2 := S.froz 2
        have z3 := S.froz 3
        have z4 := S.froz 4
        have z8 := S.froz 8
        by_cases q1 : x.state = 1
        · skip
          have b1 : (x.state == 1) = true := by simp [q1]
          have hst : Fi.step sm x = { sm with due := sm.due + 1 } := by unfold Fi.step; rw [if_pos q1]
          have HST := Lib.hid hst
          clear hst q1
          go_wp2_with fail
          go_meet
          exact ⟨d, fa, sk, by rw [HST.out]; exact (S.set0 (sm.due + 1)), (R.other ⟨b + 1, 0, none⟩ (by simp) _), (hX'.other ⟨b + 1, 0, none⟩ (by simp; omega) _), by omega, by omega, by omega, by omega, by omega, by omega, (hbr.setCell (p := ⟨b + 1, 0, none⟩) (by simp) _)⟩
        by_cases q2 : x.state = 2
        · skip
          have b1 : (x.state == 1) = false := beq_false_of_ne (by omega)
          have b2 : (x.state == 2) = true := by simp [q2]
          have hst : Fi.step sm x = { sm with run := sm.run + 1 } := by unfold Fi.step; rw [if_neg q1, if_pos q2]
          have HST := Lib.hid hst
          clear hst q1 q2
          go_wp2_with fail
          go_meet
          exact ⟨d, fa, sk, by rw [HST.out]; exact (S.set1 (sm.run + 1)), (R.other ⟨b + 1, 1, none⟩ (by simp) _), (hX'.other ⟨b + 1, 1, none⟩ (by simp; omega) _), by omega, by omega, by omega, by omega, by omega, by omega, (hbr.setCell (p := ⟨b + 1, 1, none⟩) (by simp) _)⟩
        by_cases q3 : x.state = 3
        · skip
          have b1 : (x.state == 1) = false := beq_false_of_ne (by omega)
          have b2 : (x.state == 2) = false := beq_false_of_ne (by omega)
          have b3 : (x.state == 3) = true := by simp [q3]
          have hst : Fi.step sm x = { sm with streak := 0 } := by unfold Fi.step; rw [if_neg q1, if_neg q2, if_pos q3]
          have HST := Lib.hid hst
          clear hst q1 q2 q3
          go_wp2_with fail
          go_meet
          exact ⟨d + 1, fa, sk, by rw [HST.out]; exact ((S.set2 (d + 1)).set8 0), ((R.other ⟨b + 1, 2, none⟩ (by simp) _).other ⟨b + 1, 8, none⟩ (by simp) _), ((hX'.other ⟨b + 1, 2, none⟩ (by simp; omega) _).other ⟨b + 1, 8, none⟩ (by simp; omega) _), by omega, by omega, by omega, by omega, by omega, by omega, ((hbr.setCell (p := ⟨b + 1, 2, none⟩) (by simp) _).setCell (p := ⟨b + 1, 8, none⟩) (by simp) _)⟩
        by_cases q4 : x.state = 4
        · skip
          have b1 : (x.state == 1) = false := beq_false_of_ne (by omega)
          have b2 : (x.state == 2) = false := beq_false_of_ne (by omega)
          have b3 : (x.state == 3) = false := beq_false_of_ne (by omega)
          have b4 : (x.state == 4) = true := by simp [q4]
          have hst : Fi.step sm x = { sm with streak := sm.streak + 1 } := by unfold Fi.step; rw [if_neg q1, if_neg q2, if_neg q3, if_pos q4]
          have HST := Lib.hid hst
          clear hst q1 q2 q3 q4
          go_wp2_with fail
          go_meet
          exact ⟨d, fa + 1, sk, by rw [HST.out]; exact ((S.set3 (fa + 1)).set8 (sm.streak + 1)), ((R.other ⟨b + 1, 3, none⟩ (by simp) _).other ⟨b + 1, 8, none⟩ (by simp) _), ((hX'.other ⟨b + 1, 3, none⟩ (by simp; omega) _).other ⟨b + 1, 8, none⟩ (by simp; omega) _), by omega, by omega, by omega, by omega, by omega, by omega, ((hbr.setCell (p := ⟨b + 1, 3, none⟩) (by simp) _).setCell (p := ⟨b + 1, 8, none⟩) (by simp) _)⟩
        have hst : Fi.step sm x = sm := by unfold Fi.step; rw [if_neg q1, if_neg q2, if_neg q3, if_neg q4]
        have HST := Lib.hid hst
        have b1 : (x.state == 1) = false := beq_false_of_ne q1
        have b2 : (x.state == 2) = false := beq_false_of_ne q2
        have b3 : (x.state == 3) = false := beq_false_of_ne q3
        have b4 : (x.state == 4) = false := beq_false_of_ne q4
        clear hst q1 q2 q3 q4
        by_cases q5 : x.state = 5
        · have b5 : (x.state == 5) = true := by simp [q5]
          clear q5
          go_wp2_with fail
          go_meet
          exact ⟨d, fa, sk + 1, by rw [HST.out]; exact S.set4 (sk + 1), R.other ⟨b + 1, 4, none⟩ (by simp) _, hX'.other ⟨b + 1, 4, none⟩ (by simp; omega) _, by omega, by omega, by omega, by omega, by omega, by omega, hbr.setCell (p := ⟨b + 1, 4, none⟩) (by simp) _⟩
        · have b5 : (x.state == 5) = false := beq_false_of_ne q5
          clear q5
          go_wp2_with fail
          go_meet
          exact ⟨d, fa, sk, by rw [HST.out]; exact S, R, hX', by omega, by omega, by omega, by omega, by omega, by omega, hbr⟩
      case rest =>
        obtain ⟨d', f', s', S', R', X', p1, p2, p3, p4, p5, p6, hb'⟩ := hcut
        clear S R hX hX' hbr x0 x1 x2 x3 x4 x5 x6
        obtain ⟨x0, x1, x2, x3, x4, x5, x6⟩ := X'.facts
        obtain ⟨g0, g1, g2, g3, g4, g5, g6, g7, g8⟩ := S'.facts
        have z5 := S'.froz 5
        have z6 := S'.froz 6
        have z7 := S'.froz 7
        rw [← HT.out] at S'
        by_cases hk0 : k = 0
        · have bk : ((k : Int) == 0) = true := by simp [hk0]
          clear hk0
          go_wp2_with fail
          all_goals exact ⟨⟨k + 1, d', f', s', _, _, _, by go_num, by omega, ((S'.set5 _).set7 _).set6 _, ((R'.other ⟨b + 1, 5, none⟩ (by simp) _).other ⟨b + 1, 7, none⟩ (by simp) _).other ⟨b + 1, 6, none⟩ (by simp) _, by omega, by omega, by omega, by omega, by omega, by omega, by omega, by omega, ((hb'.setCell (p := ⟨b + 1, 5, none⟩) (by simp) _).setCell (p := ⟨b + 1, 7, none⟩) (by simp) _).setCell (p := ⟨b + 1, 6, none⟩) (by simp) _⟩, by simp [intOf]; omega⟩
        · have bk : ((k : Int) == 0) = false := beq_false_of_ne (by omega)
          clear hk0
          go_wp2_with fail
          all_goals exact ⟨⟨k + 1, d', f', s', _, _, _, by go_num, by omega, (S'.set5 _).set7 _, (R'.other ⟨b + 1, 5, none⟩ (by simp) _).other ⟨b + 1, 7, none⟩ (by simp) _, by omega, by omega, by omega, by omega, by omega, by omega, by omega, by omega, (hb'.setCell (p := ⟨b + 1, 5, none⟩) (by simp) _).setCell (p := ⟨b + 1, 7, none⟩) (by simp) _⟩, by simp [intOf]; omega⟩
    · obtain rfl : k = l.length := by omega
      rw [List.take_length] at S
      obtain ⟨g0, g1, g2, g3, g4, g5, g6, g7, g8⟩ := S.facts
      obtain ⟨r0, r1, r2, r3, r4, r5, r6, r7, r8⟩ := R.facts
      generalize hsm : Fi.sum l = sm at *
      have RR := (((((((((R.set0 sm.due).set1 sm.run).set2 d).set3 fa).set4 sk).set5 t).set6 fi).set7 la).set8 sm.streak)
      have BB := (((((((((hbr.setCell (p := ⟨b, 0, none⟩) (Nat.le_refl _) (.int .i64 sm.due)).setCell (p := ⟨b, 1, none⟩) (Nat.le_refl _) (.int .i64 sm.run)).setCell (p := ⟨b, 2, none⟩) (Nat.le_refl _) (.int .i64 d)).setCell (p := ⟨b, 3, none⟩) (Nat.le_refl _) (.int .i64 fa)).setCell (p := ⟨b, 4, none⟩) (Nat.le_refl _) (.int .i64 sk)).setCell (p := ⟨b, 5, none⟩) (Nat.le_refl _) (.int .i64 t)).setCell (p := ⟨b, 6, none⟩) (Nat.le_refl _) (.int .i64 fi)).setCell (p := ⟨b, 7, none⟩) (Nat.le_refl _) (.int .i64 la)).setCell (p := ⟨b, 8, none⟩) (Nat.le_refl _) (.int .i64 sm.streak))
      have z0 := R.froz 0
      have z1 := R.froz 1
      have z2 := R.froz 2
      have z3 := R.froz 3
      have z4 := R.froz 4
      have z5 := R.froz 5
      have z6 := R.froz 6
      have z7 := R.froz 7
      have z8 := R.froz 8
      have HSM := Lib.hid hsm
      clear hsm
      go_wp2_with fail
      obtain ⟨w0, w1, w2, w3, w4, w5, w6, w7, w8⟩ := RR.facts
      refine bodyPost_ret (v := .agg #[.int .i64 sm.due, .int .i64 sm.run, .int .i64 d, .int .i64 fa, .int .i64 sk, .int .i64 t, .int .i64 fi, .int .i64 la, .int .i64 sm.streak]) ?_ rfl ⟨⟨d, fa, sk, t, fi, la, by rw [HSM.out]⟩, BB⟩
      simp [results, Try.results35, go_sem, w0, w1, w2, w3, w4, w5, w6, w7, w8]
end Go.Proofs.Ytaepkmjlkenenaa
