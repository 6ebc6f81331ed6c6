/- WatchMore: the walk. -/
import Derived.Test.YtaepkmjlkenenaaF19
namespace Go.Proofs.Ytaepkmjlkenenaa
open Go.RowKit Go.Shelf

/-- what WatchMore has in memory -/
structure WM (N b5 : Nat) (r : Fi.Rule) (v : Value) (l : List Fi.Fire) (now less : Int) (o : Fi.Fire) (w W : World) : Prop where
  wc : WC W N (N + 1) (N + 1 + 1) r v now
  oth : FireAt W (N + 1 + 1 + 1) o
  sml : RuleAt W 34 b5 ⟨r.kind, r.job, less⟩
  fires : Fires W v l
  lt : N < W.heap.size
  bel : Below N w W
theorem WM.keep {N b5 : Nat} {r : Fi.Rule} {v : Value} {l : List Fi.Fire} {now less : Int} {o : Fi.Fire} {w W W' : World} (h : WM N b5 r v l now less o w W) (hb : Below W.heap.size W W') : WM N b5 r v l now less o w W' :=
  ⟨h.wc.keep hb, h.oth.keep hb, h.sml.keep hb, h.fires.keep hb, Nat.lt_of_lt_of_le h.lt hb.size, h.bel.trans (hb.mono (Nat.le_of_lt h.lt))⟩
theorem WM.facts {N b5 : Nat} {r : Fi.Rule} {v : Value} {l : List Fi.Fire} {now less : Int} {o : Fi.Fire} {w W : World} (h : WM N b5 r v l now less o w W) :
    W.cell? ⟨N, 0, none⟩ = some (.int .u8 r.kind) ∧ W.cell? ⟨N, 1, none⟩ = some (.int .u64 r.job) ∧ W.cell? ⟨N, 2, none⟩ = some (.int .i64 r.n) ∧ W.cell? ⟨N + 1, 0, none⟩ = some v ∧ W.cell? ⟨N + 1 + 1, 0, none⟩ = some (.int .i64 now) ∧
    W.cell? ⟨b5, 0, none⟩ = some (.int .u8 r.kind) ∧ W.cell? ⟨b5, 1, none⟩ = some (.int .u64 r.job) ∧ W.cell? ⟨b5, 2, none⟩ = some (.int .i64 less) ∧
    W.cell? ⟨N + 1 + 1 + 1, 0, none⟩ = some (.int .u64 o.job) ∧ W.cell? ⟨N + 1 + 1 + 1, 1, none⟩ = some (.int .i64 o.at') ∧ W.cell? ⟨N + 1 + 1 + 1, 2, none⟩ = some (.int .i64 o.state) ∧ W.cell? ⟨N + 1 + 1 + 1, 3, none⟩ = some (.int .i64 o.att) ∧ W.cell? ⟨N + 1 + 1 + 1, 4, none⟩ = some (.int .u64 o.tok) ∧ W.cell? ⟨N + 1 + 1 + 1, 5, none⟩ = some (.int .u64 o.wk) ∧ W.cell? ⟨N + 1 + 1 + 1, 6, none⟩ = some (.int .i64 o.til) := by
  obtain ⟨a0, a1, a2⟩ := h.wc.rule.facts
  obtain ⟨b0, b1, b2⟩ := h.sml.facts
  obtain ⟨c0, c1, c2, c3, c4, c5, c6⟩ := h.oth.facts
  exact ⟨a0, a1, a2, h.wc.lst.cell, h.wc.nw.cell, b0, b1, b2, c0, c1, c2, c3, c4, c5, c6⟩
theorem three (W : World) (f1 f2 f3 : Fi.Fire) : FireAt (((W.alloc (fireO f1)).alloc (fireO f2)).alloc (fireO f3)).drew W.heap.size f1 ∧ FireAt (((W.alloc (fireO f1)).alloc (fireO f2)).alloc (fireO f3)).drew (W.heap.size + 1) f2 ∧ FireAt (((W.alloc (fireO f1)).alloc (fireO f2)).alloc (fireO f3)).drew (W.heap.size + 1 + 1) f3 ∧ Below W.heap.size W (((W.alloc (fireO f1)).alloc (fireO f2)).alloc (fireO f3)).drew := by
  have k0 := Below.al (Below.refl W.heap.size W) (fireO f1)
  have k1 := Below.al (Below.refl _ (W.alloc (fireO f1))) (fireO f2)
  have k2 := (Below.al (Below.refl _ ((W.alloc (fireO f1)).alloc (fireO f2))) (fireO f3)).drew
  have q2 := FireAt.new (W.alloc (fireO f1)) f2
  have q3 := FireAt.new ((W.alloc (fireO f1)).alloc (fireO f2)) f3
  have z1 : (W.alloc (fireO f1)).heap.size = W.heap.size + 1 := by simp
  have z2 : ((W.alloc (fireO f1)).alloc (fireO f2)).heap.size = W.heap.size + 1 + 1 := by simp
  rw [z1] at q2
  rw [z2] at q3
  exact ⟨((FireAt.new W f1).keep k1).keep k2, q2.keep k2, q3.keep (Below.refl _ _).drew, Below.call k0 (Below.call k1 k2)⟩
structure WD (N b1 b2 b3 : Nat) (r : Fi.Rule) (v : Value) (l : List Fi.Fire) (now : Int) (w W : World) : Prop where
  wc : WC W N (N + 1) (N + 1 + 1) r v now
  don : FireAt W b1 (Fi.at1 r now 3)
  due : FireAt W b2 (Fi.at1 r now 1)
  run : FireAt W b3 (Fi.at1 r now 2)
  fires : Fires W v l
  lt : N < W.heap.size
  bel : Below N w W
theorem WD.keep {N b1 b2 b3 : Nat} {r : Fi.Rule} {v : Value} {l : List Fi.Fire} {now : Int} {w W W' : World} (h : WD N b1 b2 b3 r v l now w W) (hb : Below W.heap.size W W') : WD N b1 b2 b3 r v l now w W' :=
  ⟨h.wc.keep hb, h.don.keep hb, h.due.keep hb, h.run.keep hb, h.fires.keep hb, Nat.lt_of_lt_of_le h.lt hb.size, h.bel.trans (hb.mono (Nat.le_of_lt h.lt))⟩
theorem WD.facts {N b1 b2 b3 : Nat} {r : Fi.Rule} {v : Value} {l : List Fi.Fire} {now : Int} {w W : World} (h : WD N b1 b2 b3 r v l now w W) :
    W.cell? ⟨N, 0, none⟩ = some (.int .u8 r.kind) ∧ W.cell? ⟨b1, 0, none⟩ = some (.int .u64 r.job) ∧ W.cell? ⟨b1, 1, none⟩ = some (.int .i64 now) ∧ W.cell? ⟨b1, 2, none⟩ = some (.int .i64 3) ∧ W.cell? ⟨b1, 3, none⟩ = some (.int .i64 0) ∧ W.cell? ⟨b1, 4, none⟩ = some (.int .u64 0) ∧ W.cell? ⟨b1, 5, none⟩ = some (.int .u64 0) ∧ W.cell? ⟨b1, 6, none⟩ = some (.int .i64 0) ∧ W.cell? ⟨b2, 0, none⟩ = some (.int .u64 r.job) ∧ W.cell? ⟨b2, 1, none⟩ = some (.int .i64 now) ∧ W.cell? ⟨b2, 2, none⟩ = some (.int .i64 1) ∧ W.cell? ⟨b2, 3, none⟩ = some (.int .i64 0) ∧ W.cell? ⟨b2, 4, none⟩ = some (.int .u64 0) ∧ W.cell? ⟨b2, 5, none⟩ = some (.int .u64 0) ∧ W.cell? ⟨b2, 6, none⟩ = some (.int .i64 0) ∧ W.cell? ⟨b3, 0, none⟩ = some (.int .u64 r.job) ∧ W.cell? ⟨b3, 1, none⟩ = some (.int .i64 now) ∧ W.cell? ⟨b3, 2, none⟩ = some (.int .i64 2) ∧ W.cell? ⟨b3, 3, none⟩ = some (.int .i64 0) ∧ W.cell? ⟨b3, 4, none⟩ = some (.int .u64 0) ∧ W.cell? ⟨b3, 5, none⟩ = some (.int .u64 0) ∧ W.cell? ⟨b3, 6, none⟩ = some (.int .i64 0) := by
  obtain ⟨a0, a1, a2⟩ := h.wc.rule.facts
  obtain ⟨b0, b1, b2, b3, b4, b5, b6⟩ := h.don.facts
  obtain ⟨c0, c1, c2, c3, c4, c5, c6⟩ := h.due.facts
  obtain ⟨d0, d1, d2, d3, d4, d5, d6⟩ := h.run.facts
  exact ⟨a0, b0, b1, b2, b3, b4, b5, b6, c0, c1, c2, c3, c4, c5, c6, d0, d1, d2, d3, d4, d5, d6⟩
def badG (r : Fi.Rule) (l : List Fi.Fire) (less : Int) : Bool := decide (200 < (l.length : Int)) || decide (r.n < 1) || decide (1099511627776 < r.n) || decide (less < 1) || decide (r.n < less) || decide (r.kind < 1) || decide (4 < r.kind)
set_option maxRecDepth 100000 in
set_option maxHeartbeats 8000000 in
theorem watchMore_any (r : Fi.Rule) (less : Int) (l : List Fi.Fire) (v : Value) (now : Int) (o : Fi.Fire) (hf : ∀ f ∈ l, Fi.I64 f.at') (hnow : Fi.I64 now) (ho : Fi.I64 o.at') (w : World) (hl : Fires w v l) :
    Calls Try.prog 7 #[ruleV r, .int .i64 less, v, .int .i64 now, fireV o] w fun e w' => e = .returned (.bool true) ∧ Below w.heap.size w w' := by
  obtain ⟨ao, cap, rfl, h1, h2, h3⟩ := hl.form
  obtain ⟨N, hN⟩ : ∃ N, w.heap.size = N := ⟨_, rfl⟩
  have C0 := RuleAt.new w 34 r w.heap.size rfl
  have C1 := NumAt.mk (w.alloc (.cells #[.int .u8 r.kind, .int .u64 r.job, .int .i64 r.n] 34)) 35 (.slice ao l.length cap) (w.heap.size + 1) (by simp)
  have C2 := NumAt.mk ((w.alloc (.cells #[.int .u8 r.kind, .int .u64 r.job, .int .i64 r.n] 34)).alloc (.cells #[.slice ao l.length cap] 35)) 2 (.int .i64 now) (w.heap.size + 1 + 1) (by simp)
  have C3 : FireAt ((((w.alloc (.cells #[.int .u8 r.kind, .int .u64 r.job, .int .i64 r.n] 34)).alloc (.cells #[.slice ao l.length cap] 35)).alloc (.cells #[.int .i64 now] 2)).alloc (.cells #[.int .u64 o.job, .int .i64 o.at', .int .i64 o.state, .int .i64 o.att, .int .u64 o.tok, .int .u64 o.wk, .int .i64 o.til] 58)) (w.heap.size + 1 + 1 + 1) o := by
    have := FireAt.new (((w.alloc (.cells #[.int .u8 r.kind, .int .u64 r.job, .int .i64 r.n] 34)).alloc (.cells #[.slice ao l.length cap] 35)).alloc (.cells #[.int .i64 now] 2)) o
    simpa using this
  have k0 := Below.al (Below.refl w.heap.size w) (.cells #[.int .u8 r.kind, .int .u64 r.job, .int .i64 r.n] 34)
  have k1 := Below.al (Below.refl _ (w.alloc (.cells #[.int .u8 r.kind, .int .u64 r.job, .int .i64 r.n] 34))) (.cells #[.slice ao l.length cap] 35)
  have k2 := Below.al (Below.refl _ ((w.alloc (.cells #[.int .u8 r.kind, .int .u64 r.job, .int .i64 r.n] 34)).alloc (.cells #[.slice ao l.length cap] 35))) (.cells #[.int .i64 now] 2)
  have k3 := Below.al (Below.refl _ (((w.alloc (.cells #[.int .u8 r.kind, .int .u64 r.job, .int .i64 r.n] 34)).alloc (.cells #[.slice ao l.length cap] 35)).alloc (.cells #[.int .i64 now] 2))) (.cells #[.int .u64 o.job, .int .i64 o.at', .int .i64 o.state, .int .i64 o.att, .int .u64 o.tok, .int .u64 o.wk, .int .i64 o.til] 58)
  have hb0 := Below.call k0 (Below.call k1 (Below.call k2 k3))
  replace C0 := C0.keep (Below.call k1 (Below.call k2 k3))
  replace C1 := C1.keep (Below.call k2 k3)
  replace C2 := C2.keep k3
  replace hl := hl.keep hb0
  clear k0 k1 k2 k3
  rw [hN] at hb0 C0 C1 C2 C3
  unfold ruleV fireV
  go_enter Try.func7, Try.ntmps7
  go_wp2_with fail
  generalize (((w.alloc (.cells #[.int .u8 r.kind, .int .u64 r.job, .int .i64 r.n] 34)).alloc (.cells #[.slice ao l.length cap] 35)).alloc (.cells #[.int .i64 now] 2)).alloc (.cells #[.int .u64 o.job, .int .i64 o.at', .int .i64 o.state, .int .i64 o.att, .int .u64 o.tok, .int .u64 o.wk, .int .i64 o.til] 58) = W0 at *
  have C : WC W0 N (N + 1) (N + 1 + 1) r (.slice ao l.length cap) now := ⟨C0, C1, C2⟩
  clear C0 C1 C2
  refine (known_any _).mono ?_
  rintro e w1 ⟨rfl, hc⟩
  replace hl := hl.keep hc
  replace C := C.keep hc
  have hlt0 := C3.lt
  replace C3 := C3.keep hc
  have hlt := C3.lt
  replace hb0 := hb0.trans (hc.mono (by omega))
  clear hc
  obtain ⟨e0, e1, e2⟩ := C.rule.facts
  go_upto_region 5 with fail
  have ha := Below.al (Below.refl w1.heap.size w1) (.cells #[.int .u8 r.kind, .int .u64 r.job, .int .i64 less] 34)
  have C4 : RuleAt (w1.alloc (.cells #[.int .u8 r.kind, .int .u64 r.job, .int .i64 less] 34)) 34 w1.heap.size ⟨r.kind, r.job, less⟩ := RuleAt.new w1 34 ⟨r.kind, r.job, less⟩ _ rfl
  have M : WM N w1.heap.size r (.slice ao l.length cap) l now less o w (w1.alloc (.cells #[.int .u8 r.kind, .int .u64 r.job, .int .i64 less] 34)) := ⟨C.keep ha, C3.keep ha, C4, hl.keep ha, by simp; omega, hb0.trans (ha.mono (by omega))⟩
  clear ha C4 C C3 hl hlt hlt0 hb0 e0 e1 e2
  generalize w1.alloc (.cells #[.int .u8 r.kind, .int .u64 r.job, .int .i64 less] 34) = W2 at *
  generalize w1.heap.size = b5 at *
  go_cut [53] (fun s53 wx => s53 = .bool (badG r l less) ∧ WM N b5 r (.slice ao l.length cap) l now less o w wx)
  case first => as_aux_lemma =>
    obtain ⟨e0, e1, e2, e3, e4, e5, e6, e7, e8, e9, e10, e11, e12, e13, e14⟩ := M.facts
    by_cases q0 : 200 < (l.length : Int)
    · have hh : decide (200 < (l.length : Int)) = true := by simp; omega
      have hB : badG r l less = true := by unfold badG; simp only [Bool.or_eq_true, decide_eq_true_eq]; omega
      have HB := Lib.hid hB
      clear hB
      go_wp2_with fail
      refine (heavy_same ao l.length cap _).mono ?_
      rintro e _ ⟨rfl, rfl⟩
      rw [hh]
      clear hh
      go_wp2_with fail
      go_meet
      exact ⟨by first | (rw [HB.out]; done) | (rw [HB.out]; congr 1; simp only [Bool.or_eq_false_iff, decide_eq_false_iff_not]; omega), M⟩
    by_cases q1 : r.n < 1
    · have hh : decide (200 < (l.length : Int)) = false := by simp; omega
      have hB : badG r l less = true := by unfold badG; simp only [Bool.or_eq_true, decide_eq_true_eq]; omega
      have HB := Lib.hid hB
      clear hB
      go_wp2_with fail
      refine (heavy_same ao l.length cap _).mono ?_
      rintro e _ ⟨rfl, rfl⟩
      rw [hh]
      clear hh
      go_wp2_with fail
      go_meet
      exact ⟨by first | (rw [HB.out]; done) | (rw [HB.out]; congr 1; simp only [Bool.or_eq_false_iff, decide_eq_false_iff_not]; omega), M⟩
    by_cases q2 : 1099511627776 < r.n
    · have hh : decide (200 < (l.length : Int)) = false := by simp; omega
      have hB : badG r l less = true := by unfold badG; simp only [Bool.or_eq_true, decide_eq_true_eq]; omega
      have HB := Lib.hid hB
      clear hB
      go_wp2_with fail
      refine (heavy_same ao l.length cap _).mono ?_
      rintro e _ ⟨rfl, rfl⟩
      rw [hh]
      clear hh
      go_wp2_with fail
      go_meet
      exact ⟨by first | (rw [HB.out]; done) | (rw [HB.out]; congr 1; simp only [Bool.or_eq_false_iff, decide_eq_false_iff_not]; omega), M⟩
    by_cases q3 : less < 1
    · have hh : decide (200 < (l.length : Int)) = false := by simp; omega
      have hB : badG r l less = true := by unfold badG; simp only [Bool.or_eq_true, decide_eq_true_eq]; omega
      have HB := Lib.hid hB
      clear hB
      go_wp2_with fail
      refine (heavy_same ao l.length cap _).mono ?_
      rintro e _ ⟨rfl, rfl⟩
      rw [hh]
      clear hh
      go_wp2_with fail
      go_meet
      exact ⟨by first | (rw [HB.out]; done) | (rw [HB.out]; congr 1; simp only [Bool.or_eq_false_iff, decide_eq_false_iff_not]; omega), M⟩
    by_cases q4 : r.n < less
    · have hh : decide (200 < (l.length : Int)) = false := by simp; omega
      have hB : badG r l less = true := by unfold badG; simp only [Bool.or_eq_true, decide_eq_true_eq]; omega
      have HB := Lib.hid hB
      clear hB
      go_wp2_with fail
      refine (heavy_same ao l.length cap _).mono ?_
      rintro e _ ⟨rfl, rfl⟩
      rw [hh]
      clear hh
      go_wp2_with fail
      go_meet
      exact ⟨by first | (rw [HB.out]; done) | (rw [HB.out]; congr 1; simp only [Bool.or_eq_false_iff, decide_eq_false_iff_not]; omega), M⟩
    by_cases q5 : r.kind < 1
    · have hh : decide (200 < (l.length : Int)) = false := by simp; omega
      have hB : badG r l less = true := by unfold badG; simp only [Bool.or_eq_true, decide_eq_true_eq]; omega
      have HB := Lib.hid hB
      clear hB
      go_wp2_with fail
      refine (heavy_same ao l.length cap _).mono ?_
      rintro e _ ⟨rfl, rfl⟩
      rw [hh]
      clear hh
      go_wp2_with fail
      go_meet
      exact ⟨by first | (rw [HB.out]; done) | (rw [HB.out]; congr 1; simp only [Bool.or_eq_false_iff, decide_eq_false_iff_not]; omega), M⟩
    by_cases q6 : 4 < r.kind
    · have hh : decide (200 < (l.length : Int)) = false := by simp; omega
      have hB : badG r l less = true := by unfold badG; simp only [Bool.or_eq_true, decide_eq_true_eq]; omega
      have HB := Lib.hid hB
      clear hB
      go_wp2_with fail
      refine (heavy_same ao l.length cap _).mono ?_
      rintro e _ ⟨rfl, rfl⟩
      rw [hh]
      clear hh
      go_wp2_with fail
      go_meet
      exact ⟨by first | (rw [HB.out]; done) | (rw [HB.out]; congr 1; simp only [Bool.or_eq_false_iff, decide_eq_false_iff_not]; omega), M⟩
    have hh : decide (200 < (l.length : Int)) = false := by simp; omega
    have hB : badG r l less = false := by unfold badG; simp only [Bool.or_eq_false_iff, decide_eq_false_iff_not]; omega
    have HB := Lib.hid hB
    clear hB
    go_wp2_with fail
    refine (heavy_same ao l.length cap _).mono ?_
    rintro e _ ⟨rfl, rfl⟩
    rw [hh]
    clear hh
    go_wp2_with fail
    go_meet
    exact ⟨by first | (rw [HB.out]; done) | (rw [HB.out]; congr 1; simp only [Bool.or_eq_false_iff, decide_eq_false_iff_not]; omega), M⟩
  case rest =>
    clear M
    obtain ⟨rfl, M⟩ := hcut
    obtain ⟨e0, e1, e2, e3, e4, e5, e6, e7, e8, e9, e10, e11, e12, e13, e14⟩ := M.facts
    cases hB : badG r l less with
    | true =>
      clear hB
      go_wp2_with fail
      go_ret
      exact ⟨rfl, hN ▸ M.bel⟩
    | false =>
      have hg : ¬ 200 < (l.length : Int) ∧ 1 ≤ r.n ∧ r.n ≤ 1099511627776 ∧ 1 ≤ less ∧ less ≤ r.n ∧ 1 ≤ r.kind ∧ r.kind ≤ 4 := by
        unfold badG at hB; simp only [Bool.or_eq_false_iff, decide_eq_false_iff_not] at hB; omega
      clear hB
      obtain ⟨g1, g2, g3, g4, g5, g6, g7⟩ := hg
      have hA := fun W (M : WM N b5 r (.slice ao l.length cap) l now less o w W) => amiss_any r l _ now hf hnow (by omega) W M.fires
      have hS := fun W (M : WM N b5 r (.slice ao l.length cap) l now less o w W) => amiss_any ⟨r.kind, r.job, less⟩ l _ now hf hnow (by omega) W M.fires
      have hX := fun W (M : WM N b5 r (.slice ao l.length cap) l now less o w W) => with_any r l _ now o hf ho hnow (by omega) N (N + 1) (N + 1 + 1) W M.fires M.wc
      have hY := fun (s : Int) (b1 b2 b3 : Nat) W (M : WD N b1 b2 b3 r (.slice ao l.length cap) l now w W) => with_any r l _ now (Fi.at1 r now s) hf hnow hnow (by omega) N (N + 1) (N + 1 + 1) W M.fires M.wc
      have mono := Lib.hid (Fi.amiss_less r less l now g4 g5)
      have other := Lib.hid (Fi.amiss_other r l o now)
      clear g1 g2 g3 g4 g5 hf ho hnow
      have HG := Lib.hid (And.intro g6 g7)
      clear g6 g7
      have PL := Lib.hid (show (r.kind = 1 → ∀ s, Fi.amiss r (l ++ [Fi.at1 r now s]) now = Fi.amiss r l now) ∧ (r.kind = 2 ∨ r.kind = 4 → Fi.amiss r (l ++ [Fi.at1 r now 3]) now = false ∧ Fi.amiss r (l ++ [Fi.at1 r now 1]) now = Fi.amiss r l now ∧ Fi.amiss r (l ++ [Fi.at1 r now 2]) now = Fi.amiss r l now) ∧ (r.kind = 3 → Fi.amiss r (l ++ [Fi.at1 r now 3]) now = Fi.amiss r l now ∧ (Fi.amiss r l now = true → Fi.amiss r (l ++ [Fi.at1 r now 1]) now = true ∧ Fi.amiss r (l ++ [Fi.at1 r now 2]) now = true)) from
        ⟨fun h s => Fi.more_late r l now s h, fun h => h.elim (fun h => ⟨Fi.done_fails r l now h, Fi.more_fails r l now 1 h (.inl rfl), Fi.more_fails r l now 2 h (.inr rfl)⟩) (fun h => ⟨Fi.done_quiet r l now h, Fi.more_quiet r l now 1 h (.inl rfl), Fi.more_quiet r l now 2 h (.inr rfl)⟩), fun h => ⟨Fi.done_open r l now h, fun ha => ⟨Fi.more_open r l now 1 h (.inl rfl) ha, Fi.more_open r l now 2 h (.inr rfl) ha⟩⟩⟩)
      generalize Fi.amiss ⟨r.kind, r.job, less⟩ l now = A' at *
      generalize hXe : Fi.amiss r (l ++ [o]) now = B at hX other
      have hXe := Lib.hid hXe
      generalize Fi.amiss r l now = A at hA mono other PL
      have hA4 : r.kind = 4 → ∀ W, WM N b5 r (.slice ao l.length cap) l now less o w W → Calls Try.prog 15 #[.agg #[.int .u8 4, .int .u64 r.job, .int .i64 r.n], .slice ao l.length cap, .int .i64 now] W fun e w' => e = .returned (.bool A) ∧ Below W.heap.size W w' := fun h W M => by have := hA W M; unfold ruleV at this; rwa [h] at this
      have hS4 : r.kind = 4 → ∀ W, WM N b5 r (.slice ao l.length cap) l now less o w W → Calls Try.prog 15 #[.agg #[.int .u8 4, .int .u64 r.job, .int .i64 less], .slice ao l.length cap, .int .i64 now] W fun e w' => e = .returned (.bool A') ∧ Below W.heap.size W w' := fun h W M => by have := hS W M; unfold ruleV at this; simp only [h] at this; exact this
      have hA := Lib.hid hA
      have hS := Lib.hid hS
      have hX := Lib.hid hX
      have hY := Lib.hid hY
      go_wp2_with fail
      refine (hA.out _ M).mono ?_
      rintro e w3 ⟨rfl, hc⟩
      replace M := M.keep hc
      clear hc e0 e1 e2 e3 e4 e5 e6 e7 e8 e9 e10 e11 e12 e13 e14
      obtain ⟨e0, e1, e2, e3, e4, e5, e6, e7, e8, e9, e10, e11, e12, e13, e14⟩ := M.facts
      go_upto_region 8 with fail
      generalize (Value.agg #[.int .u8 r.kind, .int .u64 r.job, .int .i64 r.n]) = x0
      go_cut [88] (fun s wx => s = .bool false ∧ WM N b5 r (.slice ao l.length cap) l now less o w wx)
      case first => as_aux_lemma =>
        by_cases hk : r.kind = 4
        · have hkb : (r.kind == 4) = true := by simp [hk]
          have hA := Lib.hid (hA4 hk)
          have hS := Lib.hid (hS4 hk)
          clear hA4 hS4
          cases A with
          | false =>
            go_wp2_with fail
            refine (hA.out _ M).mono ?_
            rintro e w4 ⟨rfl, hc⟩
            replace M := M.keep hc
            clear hc e0 e1 e2 e3 e4 e5 e6 e7 e8 e9 e10 e11 e12 e13 e14
            obtain ⟨e0, e1, e2, e3, e4, e5, e6, e7, e8, e9, e10, e11, e12, e13, e14⟩ := M.facts
            go_wp2_with fail
            go_meet
            exact ⟨rfl, M⟩
          | true =>
            obtain rfl : A' = true := mono.out rfl
            go_wp2_with fail
            refine (hA.out _ M).mono ?_
            rintro e w4 ⟨rfl, hc⟩
            replace M := M.keep hc
            clear hc e0 e1 e2 e3 e4 e5 e6 e7 e8 e9 e10 e11 e12 e13 e14
            obtain ⟨e0, e1, e2, e3, e4, e5, e6, e7, e8, e9, e10, e11, e12, e13, e14⟩ := M.facts
            go_wp2_with fail
            refine (hS.out _ M).mono ?_
            rintro e w5 ⟨rfl, hc⟩
            replace M := M.keep hc
            clear hc e0 e1 e2 e3 e4 e5 e6 e7 e8 e9 e10 e11 e12 e13 e14
            obtain ⟨e0, e1, e2, e3, e4, e5, e6, e7, e8, e9, e10, e11, e12, e13, e14⟩ := M.facts
            go_wp2_with fail
            go_meet
            exact ⟨rfl, M⟩
        · have hkb : (r.kind == 4) = false := beq_false_of_ne hk
          clear hA4 hS4
          cases A with
          | false =>
            go_wp2_with fail
            go_meet
            exact ⟨rfl, M⟩
          | true =>
            obtain rfl : A' = true := mono.out rfl
            go_wp2_with fail
            refine (hS.out _ M).mono ?_
            rintro e w5 ⟨rfl, hc⟩
            replace M := M.keep hc
            clear hc e0 e1 e2 e3 e4 e5 e6 e7 e8 e9 e10 e11 e12 e13 e14
            obtain ⟨e0, e1, e2, e3, e4, e5, e6, e7, e8, e9, e10, e11, e12, e13, e14⟩ := M.facts
            go_wp2_with fail
            go_meet
            exact ⟨rfl, M⟩
      case rest =>
        clear M e0 e1 e2 e3 e4 e5 e6 e7 e8 e9 e10 e11 e12 e13 e14
        obtain ⟨rfl, M⟩ := hcut
        obtain ⟨e0, e1, e2, e3, e4, e5, e6, e7, e8, e9, e10, e11, e12, e13, e14⟩ := M.facts
        go_upto_region 11 with fail
        generalize (Value.agg #[.int .u64 o.job, .int .i64 o.at', .int .i64 o.state, .int .i64 o.att, .int .u64 o.tok, .int .u64 o.wk, .int .i64 o.til]) = x1
        go_cut [101] (fun s wx => s = .bool false ∧ WM N b5 r (.slice ao l.length cap) l now less o w wx)
        case first => as_aux_lemma =>
          by_cases hk : o.job = r.job
          · go_wp2_with fail
            go_meet
            exact ⟨rfl, M⟩
          · obtain rfl : B = A := other.out hk
            go_wp2_with fail
            refine (hX.out _ M).mono ?_
            rintro e w4 ⟨rfl, hc⟩
            replace M := M.keep hc
            clear hc e0 e1 e2 e3 e4 e5 e6 e7 e8 e9 e10 e11 e12 e13 e14
            obtain ⟨e0, e1, e2, e3, e4, e5, e6, e7, e8, e9, e10, e11, e12, e13, e14⟩ := M.facts
            go_wp2_with fail
            go_meet
            exact ⟨by simp, M⟩
        case rest =>
          clear M e0 e1 e2 e3 e4 e5 e6 e7 e8 e9 e10 e11 e12 e13 e14
          obtain ⟨rfl, M⟩ := hcut
          go_upto_region 13 with fail
          have e1 := fun w' (h : Below wc.heap.size wc w') => (M.keep h).wc.rule.facts.2.1
          have e4 := fun w' (h : Below wc.heap.size wc w') => (M.keep h).wc.nw.cell
          have HM := Lib.hid M
          clear M
          go_cut [14, 15, 16] (fun s14 s15 s16 wx => ∃ b1 b2 b3 : Nat, s14 = .pointer (some ⟨b1, 0, none⟩) ∧ s15 = .pointer (some ⟨b2, 0, none⟩) ∧ s16 = .pointer (some ⟨b3, 0, none⟩) ∧ WD N b1 b2 b3 r (.slice ao l.length cap) l now w wx)
          case first => as_aux_lemma =>
            go_region_held3 (fun w' => Below wc.heap.size wc w') ((repeat (first | assumption | exact Below.refl _ _ | refine Below.drew ?_ | refine Below.al ?_ _ | refine Below.setCell ?_ (by simp; omega) _))) (fail)
            all_goals go_wp2_with fail
            all_goals go_meet
            all_goals
              first
                | (obtain ⟨q1, q2, q3, hq⟩ := three wc (Fi.at1 r now 3) (Fi.at1 r now 1) (Fi.at1 r now 2); have K := HM.out.keep hq; exact ⟨_, _, _, rfl, rfl, rfl, ⟨K.wc, by assumption, by assumption, by assumption, K.fires, K.lt, K.bel⟩⟩)
                | (obtain ⟨q1, q2, q3, hq⟩ := three wc (Fi.at1 r now 3) (Fi.at1 r now 2) (Fi.at1 r now 1); have K := HM.out.keep hq; exact ⟨_, _, _, rfl, rfl, rfl, ⟨K.wc, by assumption, by assumption, by assumption, K.fires, K.lt, K.bel⟩⟩)
                | (obtain ⟨q1, q2, q3, hq⟩ := three wc (Fi.at1 r now 1) (Fi.at1 r now 3) (Fi.at1 r now 2); have K := HM.out.keep hq; exact ⟨_, _, _, rfl, rfl, rfl, ⟨K.wc, by assumption, by assumption, by assumption, K.fires, K.lt, K.bel⟩⟩)
                | (obtain ⟨q1, q2, q3, hq⟩ := three wc (Fi.at1 r now 1) (Fi.at1 r now 2) (Fi.at1 r now 3); have K := HM.out.keep hq; exact ⟨_, _, _, rfl, rfl, rfl, ⟨K.wc, by assumption, by assumption, by assumption, K.fires, K.lt, K.bel⟩⟩)
                | (obtain ⟨q1, q2, q3, hq⟩ := three wc (Fi.at1 r now 2) (Fi.at1 r now 1) (Fi.at1 r now 3); have K := HM.out.keep hq; exact ⟨_, _, _, rfl, rfl, rfl, ⟨K.wc, by assumption, by assumption, by assumption, K.fires, K.lt, K.bel⟩⟩)
                | (obtain ⟨q1, q2, q3, hq⟩ := three wc (Fi.at1 r now 2) (Fi.at1 r now 3) (Fi.at1 r now 1); have K := HM.out.keep hq; exact ⟨_, _, _, rfl, rfl, rfl, ⟨K.wc, by assumption, by assumption, by assumption, K.fires, K.lt, K.bel⟩⟩)
          case rest =>
            obtain ⟨b1, b2, b3, rfl, rfl, rfl, D⟩ := hcut
            clear e1 e4 HM
            obtain ⟨e0, e1, e2, e3, e4, e5, e6, e7, e8, e9, e10, e11, e12, e13, e14, e15, e16, e17, e18, e19, e20, e21⟩ := D.facts
            have hk : r.kind = 1 ∨ r.kind = 2 ∨ r.kind = 3 ∨ r.kind = 4 := by have := HG.out; omega
            rcases hk with hk | hk | hk | hk
            · as_aux_lemma =>
              obtain P := PL.out.1 hk
              go_wp2_with fail
              refine (hY.out 3 b1 b2 b3 _ D).mono ?_
              rw [P]
              rintro e w4 ⟨rfl, hc⟩
              replace D := D.keep hc
              clear hc e0 e1 e2 e3 e4 e5 e6 e7 e8 e9 e10 e11 e12 e13 e14 e15 e16 e17 e18 e19 e20 e21
              obtain ⟨e0, e1, e2, e3, e4, e5, e6, e7, e8, e9, e10, e11, e12, e13, e14, e15, e16, e17, e18, e19, e20, e21⟩ := D.facts
              go_wp2_with fail
              refine (hY.out 1 b1 b2 b3 _ D).mono ?_
              rw [P]
              rintro e w5 ⟨rfl, hc⟩
              replace D := D.keep hc
              clear hc e0 e1 e2 e3 e4 e5 e6 e7 e8 e9 e10 e11 e12 e13 e14 e15 e16 e17 e18 e19 e20 e21
              obtain ⟨e0, e1, e2, e3, e4, e5, e6, e7, e8, e9, e10, e11, e12, e13, e14, e15, e16, e17, e18, e19, e20, e21⟩ := D.facts
              go_wp2_with fail
              refine (hY.out 2 b1 b2 b3 _ D).mono ?_
              rw [P]
              rintro e w6 ⟨rfl, hc⟩
              replace D := D.keep hc
              clear hc e0 e1 e2 e3 e4 e5 e6 e7 e8 e9 e10 e11 e12 e13 e14 e15 e16 e17 e18 e19 e20 e21
              obtain ⟨e0, e1, e2, e3, e4, e5, e6, e7, e8, e9, e10, e11, e12, e13, e14, e15, e16, e17, e18, e19, e20, e21⟩ := D.facts
              go_wp2_with fail
              go_ret
              exact ⟨by simp, hN ▸ D.bel⟩
            · as_aux_lemma =>
              obtain ⟨P3, P1, P2⟩ := PL.out.2.1 (.inl hk)
              go_wp2_with fail
              refine (hY.out 3 b1 b2 b3 _ D).mono ?_
              rw [P3]
              rintro e w7 ⟨rfl, hc⟩
              replace D := D.keep hc
              clear hc e0 e1 e2 e3 e4 e5 e6 e7 e8 e9 e10 e11 e12 e13 e14 e15 e16 e17 e18 e19 e20 e21
              obtain ⟨e0, e1, e2, e3, e4, e5, e6, e7, e8, e9, e10, e11, e12, e13, e14, e15, e16, e17, e18, e19, e20, e21⟩ := D.facts
              go_wp2_with fail
              refine (hY.out 1 b1 b2 b3 _ D).mono ?_
              rw [P1]
              rintro e w8 ⟨rfl, hc⟩
              replace D := D.keep hc
              clear hc e0 e1 e2 e3 e4 e5 e6 e7 e8 e9 e10 e11 e12 e13 e14 e15 e16 e17 e18 e19 e20 e21
              obtain ⟨e0, e1, e2, e3, e4, e5, e6, e7, e8, e9, e10, e11, e12, e13, e14, e15, e16, e17, e18, e19, e20, e21⟩ := D.facts
              go_wp2_with fail
              refine (hY.out 2 b1 b2 b3 _ D).mono ?_
              rw [P2]
              rintro e w9 ⟨rfl, hc⟩
              replace D := D.keep hc
              clear hc e0 e1 e2 e3 e4 e5 e6 e7 e8 e9 e10 e11 e12 e13 e14 e15 e16 e17 e18 e19 e20 e21
              obtain ⟨e0, e1, e2, e3, e4, e5, e6, e7, e8, e9, e10, e11, e12, e13, e14, e15, e16, e17, e18, e19, e20, e21⟩ := D.facts
              go_wp2_with fail
              go_ret
              exact ⟨by simp, hN ▸ D.bel⟩
            · as_aux_lemma =>
              obtain ⟨P3, P⟩ := PL.out.2.2 hk
              cases A with
              | false =>
                clear P
                go_wp2_with fail
                refine (hY.out 3 b1 b2 b3 _ D).mono ?_
                rw [P3]
                rintro e w10 ⟨rfl, hc⟩
                replace D := D.keep hc
                clear hc e0 e1 e2 e3 e4 e5 e6 e7 e8 e9 e10 e11 e12 e13 e14 e15 e16 e17 e18 e19 e20 e21
                obtain ⟨e0, e1, e2, e3, e4, e5, e6, e7, e8, e9, e10, e11, e12, e13, e14, e15, e16, e17, e18, e19, e20, e21⟩ := D.facts
                go_wp2_with fail
                go_ret
                exact ⟨by simp, hN ▸ D.bel⟩
              | true =>
                obtain ⟨P1, P2⟩ := P rfl
                go_wp2_with fail
                refine (hY.out 3 b1 b2 b3 _ D).mono ?_
                rw [P3]
                rintro e w11 ⟨rfl, hc⟩
                replace D := D.keep hc
                clear hc e0 e1 e2 e3 e4 e5 e6 e7 e8 e9 e10 e11 e12 e13 e14 e15 e16 e17 e18 e19 e20 e21
                obtain ⟨e0, e1, e2, e3, e4, e5, e6, e7, e8, e9, e10, e11, e12, e13, e14, e15, e16, e17, e18, e19, e20, e21⟩ := D.facts
                go_wp2_with fail
                refine (hY.out 1 b1 b2 b3 _ D).mono ?_
                rw [P1]
                rintro e w12 ⟨rfl, hc⟩
                replace D := D.keep hc
                clear hc e0 e1 e2 e3 e4 e5 e6 e7 e8 e9 e10 e11 e12 e13 e14 e15 e16 e17 e18 e19 e20 e21
                obtain ⟨e0, e1, e2, e3, e4, e5, e6, e7, e8, e9, e10, e11, e12, e13, e14, e15, e16, e17, e18, e19, e20, e21⟩ := D.facts
                go_wp2_with fail
                refine (hY.out 2 b1 b2 b3 _ D).mono ?_
                rw [P2]
                rintro e w13 ⟨rfl, hc⟩
                replace D := D.keep hc
                clear hc e0 e1 e2 e3 e4 e5 e6 e7 e8 e9 e10 e11 e12 e13 e14 e15 e16 e17 e18 e19 e20 e21
                obtain ⟨e0, e1, e2, e3, e4, e5, e6, e7, e8, e9, e10, e11, e12, e13, e14, e15, e16, e17, e18, e19, e20, e21⟩ := D.facts
                go_wp2_with fail
                go_ret
                exact ⟨by simp, hN ▸ D.bel⟩
            · as_aux_lemma =>
              obtain ⟨P3, P1, P2⟩ := PL.out.2.1 (.inr hk)
              go_wp2_with fail
              refine (hY.out 3 b1 b2 b3 _ D).mono ?_
              rw [P3]
              rintro e w14 ⟨rfl, hc⟩
              replace D := D.keep hc
              clear hc e0 e1 e2 e3 e4 e5 e6 e7 e8 e9 e10 e11 e12 e13 e14 e15 e16 e17 e18 e19 e20 e21
              obtain ⟨e0, e1, e2, e3, e4, e5, e6, e7, e8, e9, e10, e11, e12, e13, e14, e15, e16, e17, e18, e19, e20, e21⟩ := D.facts
              go_wp2_with fail
              refine (hY.out 1 b1 b2 b3 _ D).mono ?_
              rw [P1]
              rintro e w15 ⟨rfl, hc⟩
              replace D := D.keep hc
              clear hc e0 e1 e2 e3 e4 e5 e6 e7 e8 e9 e10 e11 e12 e13 e14 e15 e16 e17 e18 e19 e20 e21
              obtain ⟨e0, e1, e2, e3, e4, e5, e6, e7, e8, e9, e10, e11, e12, e13, e14, e15, e16, e17, e18, e19, e20, e21⟩ := D.facts
              go_wp2_with fail
              refine (hY.out 2 b1 b2 b3 _ D).mono ?_
              rw [P2]
              rintro e w16 ⟨rfl, hc⟩
              replace D := D.keep hc
              clear hc e0 e1 e2 e3 e4 e5 e6 e7 e8 e9 e10 e11 e12 e13 e14 e15 e16 e17 e18 e19 e20 e21
              obtain ⟨e0, e1, e2, e3, e4, e5, e6, e7, e8, e9, e10, e11, e12, e13, e14, e15, e16, e17, e18, e19, e20, e21⟩ := D.facts
              go_wp2_with fail
              go_ret
              exact ⟨by simp, hN ▸ D.bel⟩
end Go.Proofs.Ytaepkmjlkenenaa
