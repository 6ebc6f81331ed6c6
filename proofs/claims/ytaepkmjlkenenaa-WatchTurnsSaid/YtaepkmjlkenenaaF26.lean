/- WatchTurns: the walk. -/
import Derived.Test.YtaepkmjlkenenaaF25
namespace Go.Proofs.Ytaepkmjlkenenaa
open Go.RowKit Go.Shelf
attribute [local go_sem] Oper.semAt_some

/-- what WatchTurns keeps from round to round -/
structure TI (N : Nat) (w W : World) (b : Nat) (v : Value) (G : Nat) (L : List Fi.St) (last : Int) (bs : List Bool) (ds : List Deferred) : Prop where
  res : NumAt W N 4 (.bool false)
  watch : WV W b v L last
  on : W.ownsRow (N + 1) 4 1 (.slice (some ⟨G, 0, none⟩) L.length L.length) L.length (bs.map .bool)
  hb : N < b
  hv : ∀ k, v.ownBlock = some k → N < k
  apart : ∀ k, (Value.slice (some ⟨G, 0, none⟩) L.length L.length).ownBlock = some k → ¬ (k = b ∨ v.ownBlock = some k)
  marks : DefOk N W ds
  bel : Below N w W
theorem TI.keep {N : Nat} {w W W' : World} {b : Nat} {v : Value} {G : Nat} {L : List Fi.St} {last : Int} {bs : List Bool} {ds : List Deferred} (h : TI N w W b v G L last bs ds) (hc : Below W.heap.size W W') : TI N w W' b v G L last bs ds :=
  ⟨h.res.keep hc, h.watch.keep hc, ownN_keepAt h.on (fun j hj => hc.block j (World.ownsRow.lt h.on j hj).2), h.hb, h.hv, h.apart, h.marks.keep hc, h.bel.trans (hc.mono (by have := h.res.lt; omega))⟩
/-- a step of the script, as the round holds it -/
def StepAt (W : World) (c : Nat) (s : Stp) : Prop := W.heap[c]? = some (.cells #[.bool s.add, .int .u8 s.r.kind, .int .u64 s.r.job, .int .i64 s.r.n, s.lv, .int .i64 s.now] 48 (0, 0))
theorem StepAt.facts {W : World} {c : Nat} {s : Stp} (h : StepAt W c s) : W.cell? ⟨c, 0, none⟩ = some (.bool s.add) ∧ W.cell? ⟨c, 1, none⟩ = some (.int .u8 s.r.kind) ∧ W.cell? ⟨c, 2, none⟩ = some (.int .u64 s.r.job) ∧ W.cell? ⟨c, 3, none⟩ = some (.int .i64 s.r.n) ∧ W.cell? ⟨c, 4, none⟩ = some s.lv ∧ W.cell? ⟨c, 5, none⟩ = some (.int .i64 s.now) := by
  refine ⟨?_, ?_, ?_, ?_, ?_, ?_⟩ <;> (rw [cell_of_row W c _ _ 48 (0, 0) h]; rfl)
theorem StepAt.lt {W : World} {c : Nat} {s : Stp} (h : StepAt W c s) : c < W.heap.size := (Array.getElem?_eq_some_iff.1 h).1
theorem StepAt.keep {W W' : World} {c : Nat} {s : Stp} (h : StepAt W c s) (hb : Below W.heap.size W W') : StepAt W' c s := by
  unfold StepAt; rw [hb.block c h.lt]; exact h
theorem StepAt.off {W W' : World} {c : Nat} {s : Stp} {Fr : Nat → Prop} (h : StepAt W c s) (ho : Off Fr W W') (hf : ¬ Fr c) : StepAt W' c s := by
  unfold StepAt; rw [ho.same c h.lt hf]; exact h
theorem StepAt.new (W : World) (s : Stp) : StepAt (W.alloc (.cells #[.bool s.add, .int .u8 s.r.kind, .int .u64 s.r.job, .int .i64 s.r.n, s.lv, .int .i64 s.now] 48)) W.heap.size s := by
  unfold StepAt World.alloc; simp
theorem Try.info4 : (Try.prog.info? 4).map (fun i => (i.zero, i.size, i.bytes)) = some (some (.bool false), 1, 1) := by kernel_rfl
theorem tot_mem : ∀ {l : List Stp} {s : Stp}, s ∈ l → s.l.length ≤ tot l
  | x :: l, s, h => by
    have e : tot (x :: l) = 1 + x.l.length + tot l := by simp [tot]
    rw [e]
    rcases List.mem_cons.1 h with rfl | h
    · omega
    · have := tot_mem h; omega
theorem StpOk.own {w : World} {s : Stp} (h : StpOk w s) : s.l ≠ [] → ∀ k, s.lv.ownBlock = some k → k < w.heap.size := by
  intro hne k hk
  obtain ⟨ao, cap, he, -, -, -⟩ := h.1.form
  have h1 := h.1
  rw [he] at h1 hk
  obtain ⟨b, off, rfl, hb, -⟩ := Row.at fireC_len (by omega) h1 (List.length_pos_iff.2 hne)
  obtain rfl : b = k := by simpa [Value.ownBlock] using hk
  exact hb
theorem row_cells {W : World} {B : Nat} {E : TypeId} {sz : Nat} {v : Value} {n : Nat} {us : List Value} (h : W.ownsRow B E sz v n us) (k : Nat) (hk : v.ownBlock = some k) : W.heap[k]? ≠ some (.deferred (some [])) := by
  rcases h.2 with h0 | ⟨g, cap, cur, rfl, hb, hg, h1⟩
  · rw [h0.1] at hk; cases hk
  · obtain rfl : g = k := by simpa [Value.ownBlock] using hk
    rw [hg]; simp
theorem alObj_new (W : World) (t : Nat) (q : Bool) (n : Int) : (W.alloc (.cells #[.int .i64 t, .bool q, .int .i64 n] 53)).heap[W.heap.size]? = some (.cells #[.int .i64 t, .bool q, .int .i64 n] 53 (0, 0)) := by
  unfold World.alloc; simp
theorem TI.Gb {N : Nat} {w W : World} {b : Nat} {v : Value} {G : Nat} {L : List Fi.St} {last : Int} {bs : List Bool} {ds : List Deferred} (h : TI N w W b v G L last bs ds) : N < G ∧ G < W.heap.size := by
  have := World.ownsRow.lt h.on G rfl
  omega
theorem TI.setOn {N : Nat} {w W : World} {b : Nat} {v : Value} {G : Nat} {L : List Fi.St} {last : Int} {bs : List Bool} {ds : List Deferred} (h : TI N w W b v G L last bs ds) (t : Nat) (q : Bool) : TI N w (W.setCell ⟨G, t, none⟩ (.bool q)) b v G L last (bs.set t q) ds := by
  have ho : Off (fun k => k = G) W (W.setCell ⟨G, t, none⟩ (.bool q)) := Off.setCell (Fr := fun k => k = G) (Off.refl _ _) (a := ⟨G, t, none⟩) rfl _
  have hG := h.Gb.1
  have hap := h.apart G rfl
  refine ⟨ho.num h.res (by omega), ⟨by rw [ho.same b h.watch.lt (fun he => hap (.inl he.symm))]; exact h.watch.head, own_off h.watch.own ho (fun k hk he => hap (.inr (he ▸ hk)))⟩, ?_, h.hb, h.hv, h.apart, h.marks.off ho (fun k hk => row_cells h.on k (by subst hk; rfl)), h.bel.setCell (p := ⟨G, t, none⟩) (by show N ≤ G; omega) _⟩
  rw [List.map_set]
  exact ownN_set h.on t _
theorem TI.off {N : Nat} {w W W' : World} {b : Nat} {v : Value} {G : Nat} {L : List Fi.St} {last : Int} {bs : List Bool} {ds : List Deferred} {Fr : Nat → Prop} (h : TI N w W b v G L last bs ds) (ho : Off Fr W W') (hB : Below N w W') (h1 : ¬ Fr N) (h2 : ¬ Fr b) (h3 : ∀ k, v.ownBlock = some k → ¬ Fr k) (h4 : ¬ Fr G) (hf : ∀ k, Fr k → W.heap[k]? ≠ some (.deferred (some []))) : TI N w W' b v G L last bs ds :=
  ⟨ho.num h.res h1, ⟨by rw [ho.same b h.watch.lt h2]; exact h.watch.head, own_off h.watch.own ho h3⟩, own_off h.on ho (fun k hk => by
    obtain rfl : G = k := by simpa [Value.ownBlock] using hk
    exact h4), h.hb, h.hv, h.apart, h.marks.off ho hf, hB⟩
theorem TI.look {N : Nat} {w W W' : World} {b : Nat} {v : Value} {G : Nat} {L L' : List Fi.St} {last last' : Int} {bs : List Bool} {ds : List Deferred} (h : TI N w W b v G L last bs ds) (hL : L'.length = L.length) (hw : WV W' b v L' last') (ho : Off (fun k => k = b ∨ v.ownBlock = some k) W W') (hB : Below b W W') : TI N w W' b v G L' last' bs ds := by
  have hFrC : ∀ k, (k = b ∨ v.ownBlock = some k) → W.heap[k]? ≠ some (.deferred (some [])) := by
    rintro k (rfl | hk)
    · rw [h.watch.head]; simp
    · exact row_cells h.watch.own k hk
  refine ⟨ho.num h.res ?_, hw, by rw [hL]; exact own_off h.on ho h.apart, h.hb, h.hv, by rw [hL]; exact h.apart, h.marks.off ho hFrC, h.bel.trans (hB.mono (Nat.le_of_lt h.hb))⟩
  rintro (he | he)
  · have := h.hb; omega
  · have := h.hv _ he; omega
structure M3 (N b c e bo D G i : Nat) (w : World) (v lv : Value) (r : Fi.Rule) (s : Stp) (L : List Fi.St) (ds : List Deferred) (n : Nat) (q : Bool) (W : World) : Prop where
  ti : TI N w W b v G L s.now (L.map (·.on)) ds
  step : StepAt W c s
  box : NumAt W bo 46 (.slice (some ⟨D, 0, none⟩) n n)
  row : W.ownsRow D 4 1 (.slice (some ⟨D, 0, none⟩) n n) n ((L.map (·.on)).map .bool)
  rule : RuleAt W 34 e r
  lve : s.lv = lv
  at' : (L.map (·.on))[i]? = some q
theorem M3.keep {N b c e bo D G i : Nat} {w : World} {v lv : Value} {r : Fi.Rule} {s : Stp} {L : List Fi.St} {ds : List Deferred} {n : Nat} {q : Bool} {W W' : World} (h : M3 N b c e bo D G i w v lv r s L ds n q W) (hb : Below W.heap.size W W') : M3 N b c e bo D G i w v lv r s L ds n q W' :=
  ⟨h.ti.keep hb, h.step.keep hb, h.box.keep hb, ownN_keepAt h.row (fun j hj => hb.block j (World.ownsRow.lt h.row j hj).2), h.rule.keep hb, h.lve, h.at'⟩
theorem M3.ca {N b c e bo D G i : Nat} {w : World} {v lv : Value} {r : Fi.Rule} {s : Stp} {L : List Fi.St} {ds : List Deferred} {n : Nat} {q : Bool} {W : World} (h : M3 N b c e bo D G i w v lv r s L ds n q W) : W.cell? ⟨D, i, none⟩ = some (.bool q) :=
  (ownN_cell h.row (by rw [List.getElem?_map, h.at']; rfl)).1
theorem M3.cg {N b c e bo D G i : Nat} {w : World} {v lv : Value} {r : Fi.Rule} {s : Stp} {L : List Fi.St} {ds : List Deferred} {n : Nat} {q : Bool} {W : World} (h : M3 N b c e bo D G i w v lv r s L ds n q W) : W.cell? ⟨G, i, none⟩ = some (.bool q) :=
  (ownN_cell h.ti.on (by rw [List.getElem?_map, h.at']; rfl)).1
theorem M3.c4 {N b c e bo D G i : Nat} {w : World} {v lv : Value} {r : Fi.Rule} {s : Stp} {L : List Fi.St} {ds : List Deferred} {n : Nat} {q : Bool} {W : World} (h : M3 N b c e bo D G i w v lv r s L ds n q W) : W.cell? ⟨c, 4, none⟩ = some lv :=
  h.lve ▸ h.step.facts.2.2.2.2.1
theorem Al.at {w : World} {ao : Option Addr} {n cap : Nat} {l : List Fi.Alarm} (h : Row alC w (.slice ao n cap) l) (j : Nat) (x : Fi.Alarm) (hj : l[j]? = some x) :
    ∃ b off, ao = some ⟨b, off, none⟩ ∧ b < w.heap.size ∧ w.cell? ⟨b, off + j * 3, none⟩ = some (.int .i64 x.rule) ∧ w.cell? ⟨b, off + j * 3 + 1, none⟩ = some (.bool x.on) ∧ w.cell? ⟨b, off + j * 3 + 2, none⟩ = some (.int .i64 x.at') := by
  have hl : 0 < l.length := by have := (List.getElem?_eq_some_iff.1 hj).1; omega
  obtain ⟨b, off, h1, h2, h3⟩ := Row.at alC_len (by omega) h hl
  have h4 := h3 j x hj
  exact ⟨b, off, h1, h2, h4 0 _ rfl, h4 1 _ rfl, h4 2 _ rfl⟩
theorem newE_len {l : List Fi.Rule} (h : newE l = 0) : l.length ≤ 64 := by
  unfold newE at h
  split at h
  · cases h
  · split at h
    · cases h
    · omega
set_option maxRecDepth 100000 in
set_option maxHeartbeats 8000000 in
theorem watchTurns_any (rules : List Fi.Rule) (l : List Stp) (vr vl : Value) (w : World) (hr : Rus w vr rules) (hl : Steps w vl l) :
    Calls Try.prog 6 #[vr, vl] w fun e w' => e = .returned (.bool true) ∧ Below w.heap.size w w' := by
  obtain ⟨ro, rcap, rfl, g1, g2, g3⟩ := hr.form
  obtain ⟨ao, cap, rfl, h1, h2, h3⟩ := hl.1.form
  refine calls_marks Try.func6 rfl ?_
  simp only [Try.ntmps6, List.size_toArray, List.length_cons, List.length_nil, Nat.reduceAdd, Nat.reduceSub, Array.replicate_succ, Array.replicate_zero, List.push_toArray, List.append_toArray, List.nil_append, List.cons_append]
  have hb0 := Below.al (Below.refl w.heap.size w) (.cells #[.bool false] 4)
  have N0 : NumAt (w.alloc (.cells #[.bool false] 4)) w.heap.size 4 (.bool false) := by unfold NumAt World.alloc; simp
  have hr0 := hr.keep hb0
  have hl0 := hl.keep hb0
  obtain ⟨N, hN⟩ : ∃ N, w.heap.size = N := ⟨_, rfl⟩
  go_wp2_with fail
  rw [hN] at hb0 N0
  generalize w.alloc (.cells #[.bool false] 4) = W0 at *
  refine (known_any _).mono ?_
  rintro e w1 ⟨rfl, hc⟩
  have hz := N0.lt
  replace N0 := N0.keep hc
  replace hr0 := Row.keep hr0 hc
  replace hl0 := hl0.keep hc
  replace hb0 := hb0.trans (hc.mono (by omega))
  clear hc
  go_wp2_with fail
  have hrl : (rules.length : Int) ≤ 9223372036854775807 := by unfold maxLen at g2; omega
  refine (new_any rules _ (by omega) w1 hr0).mono ?_
  rintro e w2 (⟨hne, rfl, hc⟩ | ⟨heq, b, v, rfl, hb, hW, hc⟩)
  · have hz := N0.lt
    replace N0 := N0.keep hc
    replace hr0 := Row.keep hr0 hc
    replace hl0 := hl0.keep hc
    replace hb0 := hb0.trans (hc.mono (by omega))
    clear hc
    generalize newE rules = E at *
    go_wp2_with fail
    refine (great_any rules l _ _ w2 hr0 hl0).mono ?_
    rintro e w3 ⟨q, rfl, -, hc⟩
    have hz := N0.lt
    replace N0 := N0.keep hc
    replace hb0 := hb0.trans (hc.mono (by omega))
    clear hc
    have cN := N0.cell
    have fN := N0.froz
    cases q with
    | true =>
      go_wp2_with fail
      have m6 := (N0.set (.bool true)).cell
      refine ⟨.bool true, ?_, rfl, hN ▸ hb0.setCell (p := ⟨N, 0, none⟩) (Nat.le_refl _) _⟩
      simp [results, Try.results6, go_sem, m6]
    | false =>
      go_wp2_with fail
      have m6 := (N0.set (.bool true)).cell
      refine ⟨.bool true, ?_, rfl, hN ▸ hb0.setCell (p := ⟨N, 0, none⟩) (Nat.le_refl _) _⟩
      simp [results, Try.results6, go_sem, m6]
  · have hz := N0.lt
    have hv : ∀ k, v.ownBlock = some k → N < k := fun k hk => by have := (World.ownsRow.lt hW.own k hk).1; omega
    have hbN : N < b := by omega
    replace N0 := N0.keep hc
    replace hr0 := Row.keep hr0 hc
    replace hl0 := hl0.keep hc
    replace hb0 := hb0.trans (hc.mono (by omega))
    clear hc hz hb
    go_wp2_with fail
    refine (great_any rules l _ _ w2 hr0 hl0).mono ?_
    rintro e w3 ⟨q, rfl, hq, hc⟩
    have hz := N0.lt
    replace N0 := N0.keep hc
    replace hW := hW.keep hc
    replace hb0 := hb0.trans (hc.mono (by omega))
    clear hc hz
    have cN := N0.cell
    have fN := N0.froz
    cases q with
    | true =>
      clear hW hq
      go_wp2_with fail
      have m6 := (N0.set (.bool true)).cell
      refine ⟨.bool true, ?_, rfl, hN ▸ hb0.setCell (p := ⟨N, 0, none⟩) (Nat.le_refl _) _⟩
      simp [results, Try.results6, go_sem, m6]
    | false =>
      obtain ⟨htot, -⟩ := hq rfl
      have hlen := newE_len heq
      have HE := Lib.hid heq
      clear hq heq
      have hN1 : N + 1 ≤ w3.heap.size := N0.lt
      obtain ⟨i4, hi, hz0, hz1, hz2⟩ := info_parts Try.info4
      have HI := Lib.hid hi
      have HZ := Lib.hid (And.intro hz0 (And.intro hz1 hz2))
      clear hi hz0 hz1 hz2
      go_wp2_with (at_make; refine wpList_make_full w3 rfl (.tmp 35) (.tmp 35) 46 rfl (N + 1) 4 i4 (.bool false) 1 Try.underlying46 HI.out HZ.out.1 HZ.out.2.1 .i64 .i64 _ _ rules.length rfl rfl rfl rfl (by rw [HZ.out.2.2]; omega) (by unfold maxLen; omega) hN1 ?_; intro w4 hown hgr)
      have hb4 : Below w3.heap.size w3 w4 := (Below.refl _ _).grown hgr (Nat.le_refl _) (fun k hk => by cases hk)
      obtain ⟨G, hG⟩ : ∃ G, w3.heap.size = G := ⟨_, rfl⟩
      have hap : ∀ k, (Value.slice (some ⟨G, 0, none⟩) rules.length rules.length).ownBlock = some k → ¬ (k = b ∨ v.ownBlock = some k) := by
        intro k hk
        obtain rfl : G = k := by simpa [Value.ownBlock] using hk
        rintro (he | he)
        · have := hW.lt; omega
        · have := (World.ownsRow.lt hW.own _ he).2; omega
      have hcells : (madeCells (Value.bool false).cells (rules.length * 1)).toList = (List.replicate rules.length false).map .bool := by
        rw [Nat.mul_one, List.map_replicate]
        exact toList_madeCells_one _ _
      rw [hG, hcells] at hown
      rw [hG]
      have T : TI N w w4 b v G (rules.map st0) (-1) (List.replicate rules.length false) [] := ⟨N0.keep hb4, hW.keep hb4, by simpa using hown, hbN, hv, by simpa using hap, trivial, hb0.trans (hb4.mono (by omega))⟩
      clear HI HZ hown hgr hb4 hap hcells hG hN1 cN fN N0 hW hb0 hr0 hl0 hbN hv
      refine wp_loop (fun a' w' => ∃ u9 u10 u11 u12 u14 u15 u16 u17 u18 u19 u39 u40 u41 u42 u43 u44 u45 u46 u47 u48 u49 u50 u51 u52 u53 u54 u55 u56 u57 u58 u59 u60 u61 u62 u63 u64 u65 u66 u67 u68 u69 u70 u71 u72 u73 u74 u75 u76 u77 u78 u79 u80 u81 u82 u83 u84 u85 u86 u87 u88 u89 u90 u91 u92 u93 u94 u95 u96 u97 u98 u99 u100 u101 u104 u105 u106 u107 u108 u109 u110 u111 u112 u113 u114 u115 u116 u117 u118 u119 u120 u121 u122 u123 u124 u125 u126 u127 u128 u129 u130 u131 u132 u133 u134 u135 u136 u137 u138 u139 u140 u141 u142 u143 u144 u145 u146 u147 u148 u149 u150 u151 u152 u153 u154 u155 u156 u157 u158 u159 u160 u161 u162 u163 : Value, ∃ ds : List Deferred, (∃ (k : Nat) (L : List Fi.St) (last : Int), u39 = .int .i64 k ∧ k ≤ l.length ∧ L.map (·.rule) = rules ∧ TI N w w' b v G L last (L.map (·.on)) ds) ∧ a' = { tmps := #[.slice ro rules.length rcap, .slice ao l.length cap, undef, undef, .pointer (some ⟨N, 0, none⟩), .pointer (some ⟨b, 0, none⟩), .int .i64 0, .slice (some ⟨G, 0, none⟩) rules.length rules.length, undef, u9, u10, u11, u12, undef, u14, u15, u16, u17, u18, u19, .bool true, .bool false, .tuple #[.pointer (some ⟨b, 0, none⟩), .int .i64 0], .slice ro rules.length rcap, .tuple #[.pointer (some ⟨b, 0, none⟩), .int .i64 0], .pointer (some ⟨b, 0, none⟩), .int .i64 0, .slice ro rules.length rcap, .slice ao l.length cap, .bool false, .bool false, .int .i64 0, .bool false, .bool false, .slice ro rules.length rcap, .int .i64 rules.length, .slice (some ⟨G, 0, none⟩) rules.length rules.length, .slice ao l.length cap, .int .i64 l.length, u39, u40, u41, u42, u43, u44, u45, u46, u47, u48, u49, u50, u51, u52, u53, u54, u55, u56, u57, u58, u59, u60, u61, u62, u63, u64, u65, u66, u67, u68, u69, u70, u71, u72, u73, u74, u75, u76, u77, u78, u79, u80, u81, u82, u83, u84, u85, u86, u87, u88, u89, u90, u91, u92, u93, u94, u95, u96, u97, u98, u99, u100, u101, undef, undef, u104, u105, u106, u107, u108, u109, u110, u111, u112, u113, u114, u115, u116, u117, u118, u119, u120, u121, u122, u123, u124, u125, u126, u127, u128, u129, u130, u131, u132, u133, u134, u135, u136, u137, u138, u139, u140, u141, u142, u143, u144, u145, u146, u147, u148, u149, u150, u151, u152, u153, u154, u155, u156, u157, u158, u159, u160, u161, u162, u163], defers := ds }) (fun a' _ => l.length - (intOf (a'.tmps.getD 39 undef)).toNat) ?_ ?_
      · (repeat apply Exists.intro)
        refine ⟨?_, rfl⟩
        have hm : (rules.map st0).map (·.on) = List.replicate rules.length false := by
          rw [List.map_map]; exact List.map_const ..
        have hm2 : (rules.map st0).map (·.rule) = rules := by
          rw [List.map_map]; exact List.map_id _
        exact ⟨0, rules.map st0, -1, rfl, Nat.zero_le _, hm2, hm ▸ T⟩
      · intro _ wr hinv
        obtain ⟨u9, hinv⟩ := hinv
        obtain ⟨u10, hinv⟩ := hinv
        obtain ⟨u11, hinv⟩ := hinv
        obtain ⟨u12, hinv⟩ := hinv
        obtain ⟨u14, hinv⟩ := hinv
        obtain ⟨u15, hinv⟩ := hinv
        obtain ⟨u16, hinv⟩ := hinv
        obtain ⟨u17, hinv⟩ := hinv
        obtain ⟨u18, hinv⟩ := hinv
        obtain ⟨u19, hinv⟩ := hinv
        obtain ⟨u39, hinv⟩ := hinv
        obtain ⟨u40, hinv⟩ := hinv
        obtain ⟨u41, hinv⟩ := hinv
        obtain ⟨u42, hinv⟩ := hinv
        obtain ⟨u43, hinv⟩ := hinv
        obtain ⟨u44, hinv⟩ := hinv
        obtain ⟨u45, hinv⟩ := hinv
        obtain ⟨u46, hinv⟩ := hinv
        obtain ⟨u47, hinv⟩ := hinv
        obtain ⟨u48, hinv⟩ := hinv
        obtain ⟨u49, hinv⟩ := hinv
        obtain ⟨u50, hinv⟩ := hinv
        obtain ⟨u51, hinv⟩ := hinv
        obtain ⟨u52, hinv⟩ := hinv
        obtain ⟨u53, hinv⟩ := hinv
        obtain ⟨u54, hinv⟩ := hinv
        obtain ⟨u55, hinv⟩ := hinv
        obtain ⟨u56, hinv⟩ := hinv
        obtain ⟨u57, hinv⟩ := hinv
        obtain ⟨u58, hinv⟩ := hinv
        obtain ⟨u59, hinv⟩ := hinv
        obtain ⟨u60, hinv⟩ := hinv
        obtain ⟨u61, hinv⟩ := hinv
        obtain ⟨u62, hinv⟩ := hinv
        obtain ⟨u63, hinv⟩ := hinv
        obtain ⟨u64, hinv⟩ := hinv
        obtain ⟨u65, hinv⟩ := hinv
        obtain ⟨u66, hinv⟩ := hinv
        obtain ⟨u67, hinv⟩ := hinv
        obtain ⟨u68, hinv⟩ := hinv
        obtain ⟨u69, hinv⟩ := hinv
        obtain ⟨u70, hinv⟩ := hinv
        obtain ⟨u71, hinv⟩ := hinv
        obtain ⟨u72, hinv⟩ := hinv
        obtain ⟨u73, hinv⟩ := hinv
        obtain ⟨u74, hinv⟩ := hinv
        obtain ⟨u75, hinv⟩ := hinv
        obtain ⟨u76, hinv⟩ := hinv
        obtain ⟨u77, hinv⟩ := hinv
        obtain ⟨u78, hinv⟩ := hinv
        obtain ⟨u79, hinv⟩ := hinv
        obtain ⟨u80, hinv⟩ := hinv
        obtain ⟨u81, hinv⟩ := hinv
        obtain ⟨u82, hinv⟩ := hinv
        obtain ⟨u83, hinv⟩ := hinv
        obtain ⟨u84, hinv⟩ := hinv
        obtain ⟨u85, hinv⟩ := hinv
        obtain ⟨u86, hinv⟩ := hinv
        obtain ⟨u87, hinv⟩ := hinv
        obtain ⟨u88, hinv⟩ := hinv
        obtain ⟨u89, hinv⟩ := hinv
        obtain ⟨u90, hinv⟩ := hinv
        obtain ⟨u91, hinv⟩ := hinv
        obtain ⟨u92, hinv⟩ := hinv
        obtain ⟨u93, hinv⟩ := hinv
        obtain ⟨u94, hinv⟩ := hinv
        obtain ⟨u95, hinv⟩ := hinv
        obtain ⟨u96, hinv⟩ := hinv
        obtain ⟨u97, hinv⟩ := hinv
        obtain ⟨u98, hinv⟩ := hinv
        obtain ⟨u99, hinv⟩ := hinv
        obtain ⟨u100, hinv⟩ := hinv
        obtain ⟨u101, hinv⟩ := hinv
        obtain ⟨u104, hinv⟩ := hinv
        obtain ⟨u105, hinv⟩ := hinv
        obtain ⟨u106, hinv⟩ := hinv
        obtain ⟨u107, hinv⟩ := hinv
        obtain ⟨u108, hinv⟩ := hinv
        obtain ⟨u109, hinv⟩ := hinv
        obtain ⟨u110, hinv⟩ := hinv
        obtain ⟨u111, hinv⟩ := hinv
        obtain ⟨u112, hinv⟩ := hinv
        obtain ⟨u113, hinv⟩ := hinv
        obtain ⟨u114, hinv⟩ := hinv
        obtain ⟨u115, hinv⟩ := hinv
        obtain ⟨u116, hinv⟩ := hinv
        obtain ⟨u117, hinv⟩ := hinv
        obtain ⟨u118, hinv⟩ := hinv
        obtain ⟨u119, hinv⟩ := hinv
        obtain ⟨u120, hinv⟩ := hinv
        obtain ⟨u121, hinv⟩ := hinv
        obtain ⟨u122, hinv⟩ := hinv
        obtain ⟨u123, hinv⟩ := hinv
        obtain ⟨u124, hinv⟩ := hinv
        obtain ⟨u125, hinv⟩ := hinv
        obtain ⟨u126, hinv⟩ := hinv
        obtain ⟨u127, hinv⟩ := hinv
        obtain ⟨u128, hinv⟩ := hinv
        obtain ⟨u129, hinv⟩ := hinv
        obtain ⟨u130, hinv⟩ := hinv
        obtain ⟨u131, hinv⟩ := hinv
        obtain ⟨u132, hinv⟩ := hinv
        obtain ⟨u133, hinv⟩ := hinv
        obtain ⟨u134, hinv⟩ := hinv
        obtain ⟨u135, hinv⟩ := hinv
        obtain ⟨u136, hinv⟩ := hinv
        obtain ⟨u137, hinv⟩ := hinv
        obtain ⟨u138, hinv⟩ := hinv
        obtain ⟨u139, hinv⟩ := hinv
        obtain ⟨u140, hinv⟩ := hinv
        obtain ⟨u141, hinv⟩ := hinv
        obtain ⟨u142, hinv⟩ := hinv
        obtain ⟨u143, hinv⟩ := hinv
        obtain ⟨u144, hinv⟩ := hinv
        obtain ⟨u145, hinv⟩ := hinv
        obtain ⟨u146, hinv⟩ := hinv
        obtain ⟨u147, hinv⟩ := hinv
        obtain ⟨u148, hinv⟩ := hinv
        obtain ⟨u149, hinv⟩ := hinv
        obtain ⟨u150, hinv⟩ := hinv
        obtain ⟨u151, hinv⟩ := hinv
        obtain ⟨u152, hinv⟩ := hinv
        obtain ⟨u153, hinv⟩ := hinv
        obtain ⟨u154, hinv⟩ := hinv
        obtain ⟨u155, hinv⟩ := hinv
        obtain ⟨u156, hinv⟩ := hinv
        obtain ⟨u157, hinv⟩ := hinv
        obtain ⟨u158, hinv⟩ := hinv
        obtain ⟨u159, hinv⟩ := hinv
        obtain ⟨u160, hinv⟩ := hinv
        obtain ⟨u161, hinv⟩ := hinv
        obtain ⟨u162, hinv⟩ := hinv
        obtain ⟨u163, hinv⟩ := hinv
        obtain ⟨ds, hrel, ha⟩ := hinv
        subst ha
        dsimp only
        clear T
        obtain ⟨k, L, last, rfl, hk, hrule, T⟩ := hrel
        have hn : L.length = rules.length := by rw [← hrule, List.length_map]
        by_cases hlt : k < l.length
        · have hlt' : (k : Int) < (l.length : Int) := by omega
          have hl9 : (l.length : Int) ≤ 9223372036854775807 := by unfold maxLen at h2; omega
          obtain ⟨bl, off, rfl, hbl, hca⟩ := Steps.at (hl.keep (hN ▸ T.bel)) (by omega)
          obtain ⟨c0, c1, c2, c3, c4, c5⟩ := hca k hlt
          have hS := hl.2 l[k] (List.getElem_mem hlt)
          have hS2 := (hl.keep (hN ▸ T.bel)).2 l[k] (List.getElem_mem hlt)
          have hs600 : l[k].l.length ≤ 600 := Nat.le_trans (tot_mem (List.getElem_mem hlt)) htot
          have hown := hS.own
          have hFw := hS.1
          obtain ⟨xo, xc, hx, y1, y2, y3⟩ := hS2.1.form
          rw [hN] at hown
          clear hca hS
          generalize l[k] = s at *
          have X := StepAt.new wr s
          have hal := Below.al (Below.refl wr.heap.size wr) (.cells #[.bool s.add, .int .u8 s.r.kind, .int .u64 s.r.job, .int .i64 s.r.n, s.lv, .int .i64 s.now] 48)
          have hcN : N < wr.heap.size := T.res.lt
          have hbc : b < wr.heap.size := T.watch.lt
          have hvc := fun k (hk : v.ownBlock = some k) => (World.ownsRow.lt T.watch.own k hk).2
          have hGc := T.Gb.2
          replace T := T.keep hal
          have hF : Fires _ s.lv s.l := hS2.1.keep hal
          have hfa := hS2.2.1
          have hnow := hS2.2.2.1
          clear hS2 hal
          rw [hx] at c4 T X hF hown hFw
          go_wp2_with fail
          generalize wr.alloc (.cells #[.bool s.add, .int .u8 s.r.kind, .int .u64 s.r.job, .int .i64 s.r.n, .slice xo s.l.length xc, .int .i64 s.now] 48) = W1 at *
          obtain ⟨x0, x1, x2, x3, x4, x5⟩ := X.facts
          rw [hx] at x4
          clear c0 c1 c2 c3 c4 c5
          obtain ⟨c, hcw⟩ : ∃ c, wr.heap.size = c := ⟨_, rfl⟩
          rw [hcw] at X x0 x1 x2 x3 x4 x5 hcN hbc hvc hGc ⊢
          by_cases hold : s.now < 0 ∨ (0 ≤ s.now ∧ s.now < last)
          · as_aux_lemma =>
            refine (look_old b v _ L last s.now hold W1 T.watch).mono ?_
            rintro e _ ⟨rfl, rfl⟩
            go_wp2_with fail
            refine ⟨?_, by simp [intOf]; omega⟩
            (repeat apply Exists.intro)
            refine ⟨?_, rfl⟩
            exact ⟨k + 1, L, last, by simp, by omega, hrule, T⟩
          · have hl0' : 0 ≤ s.now ∧ last ≤ s.now := by omega
            clear hold
            have hsv : s.l ≠ [] → ∀ k, (Value.slice xo s.l.length xc).ownBlock = some k → ¬ (k = b ∨ v.ownBlock = some k) := fun hne k hk he => by
              have h1 := hown hne k hk
              rcases he with he | he
              · have := T.hb; omega
              · have := T.hv k he; omega
            refine (look_any b v _ L s.l last s.now (by omega) (by omega) hfa hl0'.1 hl0'.2 hnow W1 T.watch hF hsv).mono ?_
            rintro e W2 ⟨va, rfl, hW2, hA, hO, hB⟩
            obtain ⟨va', acap, rfl, -, -⟩ := ownN_form hA
            have hLn : (Fi.look s.l s.now L).length = L.length := by simp [Fi.look]
            have T2 : TI N w W2 b v G (Fi.look s.l s.now L) s.now (onAt s.l s.now L 0) ds := by
              rw [onAt_0]
              exact T.look hLn hW2 hO hB
            have X2 : StepAt W2 c s := X.off hO (by rintro (he | he); (omega); (have := hvc _ he; omega))
            obtain ⟨M, hM⟩ : ∃ M, W1.heap.size = M := ⟨_, rfl⟩
            have hGM : G < M := by have := T.Gb.2; omega
            rw [hM] at hA
            clear hW2 hO hB T X hF x0 x1 x2 x3 x4 x5
            obtain ⟨R, hR⟩ : ∃ R, Fi.rings s.l s.now 0 L = R := ⟨_, rfl⟩
            obtain ⟨L', hL'⟩ : ∃ L', Fi.look s.l s.now L = L' := ⟨_, rfl⟩
            have hRL : R.length ≤ L.length := hR ▸ Fi.rings_len s.l s.now L 0
            rw [hR] at hA ⊢
            rw [hL'] at T2 hLn
            go_wp2_with fail
            go_loopw [12, 56] (fun la ii W => ∃ (i j : Nat) (p : Int), la = .int .i64 p ∧ ii = .int .i64 j ∧ i ≤ L.length ∧ j ≤ R.length ∧ p < i ∧ R.drop j = Fi.rings s.l s.now i (L.drop i) ∧ TI N w W b v G L' s.now (onAt s.l s.now L i) ds ∧ StepAt W c s ∧ W.ownsRow M 53 3 (.slice va' R.length acap) R.length (R.flatMap alC)) (fun _ ii _ => R.length - (intOf ii).toNat)
            case atStart => exact ⟨0, 0, -1, rfl, rfl, Nat.zero_le _, Nat.zero_le _, by omega, by rw [List.drop_zero, List.drop_zero, hR], T2, X2, hA⟩
            case round =>
              clear T2 X2 hA
              obtain ⟨i, j, p, rfl, rfl, hi, hj, hp, hdr, T, X, A⟩ := hrel
              by_cases hjl : j < R.length
              · rcases rings_next s.l s.now (L.drop i) i with ⟨h1, -⟩ | ⟨m, x, hm1, hm2, hm3, hm4⟩
                · exfalso
                  rw [h1] at hdr
                  have := congrArg List.length hdr
                  rw [List.length_drop] at this
                  simp only [List.length_nil] at this
                  omega
                · have hlm : i + m < L.length := by
                    have := (List.getElem?_eq_some_iff.1 hm1).1
                    rw [List.length_drop] at this; omega
                  have hgx : L[i + m]? = some x := by rw [← hm1, List.getElem?_drop]
                  rw [hm2, List.drop_eq_getElem_cons hjl] at hdr
                  obtain ⟨hRj, hdr'⟩ := List.cons.inj hdr
                  have hget : R[j]? = some ⟨((i + m : Nat) : Int), Fi.amiss x.rule s.l s.now, s.now⟩ := by rw [List.getElem?_eq_getElem hjl, hRj]
                  have hstep := onAt_step s.l s.now L i m x hm1 hm4
                  have hwas := onAt_get s.l s.now L i (i + m) x hgx
                  rw [if_neg (by omega), hm3] at hwas
                  rw [List.drop_drop, show i + (m + 1) = i + m + 1 by omega] at hdr'
                  clear hdr hRj hm1 hm2 hm3 hm4 hgx
                  obtain ⟨ga, oa, rfl, hga, a0, a1, a2⟩ := Al.at (Row.own alC_len A (by omega)) j _ hget
                  simp only at a0 a1 a2
                  clear hget
                  generalize Fi.amiss x.rule s.l s.now = q at *
                  have hit : i ≤ i + m := by omega
                  generalize i + m = t at *
                  have X3 := X.keep (Below.al (Below.refl wr.heap.size wr) (.cells #[.int .i64 t, .bool q, .int .i64 s.now] 53))
                  have T3 := T.keep (Below.al (Below.refl wr.heap.size wr) (.cells #[.int .i64 t, .bool q, .int .i64 s.now] 53))
                  have A3 := ownN_keepAt A (fun j hj => (Below.al (Below.refl wr.heap.size wr) (.cells #[.int .i64 t, .bool q, .int .i64 s.now] 53)).block j (World.ownsRow.lt A j hj).2)
                  obtain ⟨cOn, fOn⟩ := ownN_cell T3.on (j := t) (u := .bool (!q)) (by rw [List.getElem?_map, hwas]; rfl)
                  obtain ⟨x0, x1, x2, x3, x4, x5⟩ := X3.facts
                  have hnp : ¬ ((t : Int) ≤ p) := by omega
                  have hnl : ¬ ((rules.length : Int) ≤ (t : Int)) := by omega
                  have hjl' : (j : Int) < (R.length : Int) := by omega
                  have htl : (t : Int) < (rules.length : Int) := by omega
                  have hR9 : (R.length : Int) ≤ 64 := by omega
                  have HD := Lib.hid hdr'
                  have HS := Lib.hid hstep
                  clear hdr' hstep hwas T X A
                  go_upto_region 16 with fail
                  have hd := alObj_new wr t q s.now
                  generalize wr.alloc (.cells #[.int .i64 t, .bool q, .int .i64 s.now] 53) = W3 at *
                  clear a0 a1 a2 hga
                  generalize wr.heap.size = e at *
                  have d0 : W3.cell? ⟨e, 0, none⟩ = some (.int .i64 t) := by rw [cell_of_row W3 e _ _ 53 (0, 0) hd]; rfl
                  have d1 : W3.cell? ⟨e, 1, none⟩ = some (.bool q) := by rw [cell_of_row W3 e _ _ 53 (0, 0) hd]; rfl
                  have d2 : W3.cell? ⟨e, 2, none⟩ = some (.int .i64 s.now) := by rw [cell_of_row W3 e _ _ 53 (0, 0) hd]; rfl
                  clear hd
                  refine wp_region_held_drew (S := fun w' => w' = W3.drew) (by kernel_rfl) rfl (fun _ => ?_)
                  first
                    | (refine wpAnyH_take (i := 0) (oi := { dst := _, op := _, type := _, pos := _, after := _, guard := _ }) (v := ?vq0) rfl (by kernel_rfl) (by kernel_rfl) (by kernel_rfl) (fun _ _ _ h => leaves_put 4 rfl (by decide) h) (Or.inl ⟨by rfl, ?yq0⟩) rfl ?rq0; (case yq0 => intro w hSw; subst hSw; go_simp <;> with_reducible rfl); simp only [Act.put, List.setIfInBounds_toArray, List.set_cons_zero, List.set_cons_succ])
                    | (refine wpAnyH_take (i := 0) (oi := { dst := _, op := _, type := _, pos := _, after := _, guard := _ }) (v := undef) rfl (by kernel_rfl) (by kernel_rfl) (by kernel_rfl) (fun _ _ _ h => leaves_put 4 rfl (by decide) h) (Or.inr ⟨by rfl, rfl⟩) rfl ?rq0; simp only [Act.put, List.setIfInBounds_toArray, List.set_cons_zero, List.set_cons_succ])
                  first
                    | (refine wpAnyH_take (i := 1) (oi := { dst := _, op := _, type := _, pos := _, after := _, guard := _ }) (v := ?vq1) rfl (by kernel_rfl) (by kernel_rfl) (by kernel_rfl) (fun _ _ _ h => leaves_put 4 rfl (by decide) h) (Or.inl ⟨by rfl, ?yq1⟩) rfl ?rq1; (case yq1 => intro w hSw; subst hSw; go_simp <;> with_reducible rfl); simp only [Act.put, List.setIfInBounds_toArray, List.set_cons_zero, List.set_cons_succ])
                    | (refine wpAnyH_take (i := 1) (oi := { dst := _, op := _, type := _, pos := _, after := _, guard := _ }) (v := undef) rfl (by kernel_rfl) (by kernel_rfl) (by kernel_rfl) (fun _ _ _ h => leaves_put 4 rfl (by decide) h) (Or.inr ⟨by rfl, rfl⟩) rfl ?rq1; simp only [Act.put, List.setIfInBounds_toArray, List.set_cons_zero, List.set_cons_succ])
                  first
                    | (refine wpAnyH_take (i := 2) (oi := { dst := _, op := _, type := _, pos := _, after := _, guard := _ }) (v := ?vq2) rfl (by kernel_rfl) (by kernel_rfl) (by kernel_rfl) (fun _ _ _ h => leaves_put 4 rfl (by decide) h) (Or.inl ⟨by rfl, ?yq2⟩) rfl ?rq2; (case yq2 => intro w hSw; subst hSw; go_simp <;> with_reducible rfl); simp only [Act.put, List.setIfInBounds_toArray, List.set_cons_zero, List.set_cons_succ])
                    | (refine wpAnyH_take (i := 2) (oi := { dst := _, op := _, type := _, pos := _, after := _, guard := _ }) (v := undef) rfl (by kernel_rfl) (by kernel_rfl) (by kernel_rfl) (fun _ _ _ h => leaves_put 4 rfl (by decide) h) (Or.inr ⟨by rfl, rfl⟩) rfl ?rq2; simp only [Act.put, List.setIfInBounds_toArray, List.set_cons_zero, List.set_cons_succ])
                  first
                    | (refine wpAnyH_take (i := 3) (oi := { dst := _, op := _, type := _, pos := _, after := _, guard := _ }) (v := ?vq3) rfl (by kernel_rfl) (by kernel_rfl) (by kernel_rfl) (fun _ _ _ h => leaves_put 4 rfl (by decide) h) (Or.inl ⟨by rfl, ?yq3⟩) rfl ?rq3; (case yq3 => intro w hSw; subst hSw; go_simp <;> with_reducible rfl); simp only [Act.put, List.setIfInBounds_toArray, List.set_cons_zero, List.set_cons_succ])
                    | (refine wpAnyH_take (i := 3) (oi := { dst := _, op := _, type := _, pos := _, after := _, guard := _ }) (v := undef) rfl (by kernel_rfl) (by kernel_rfl) (by kernel_rfl) (fun _ _ _ h => leaves_put 4 rfl (by decide) h) (Or.inr ⟨by rfl, rfl⟩) rfl ?rq3; simp only [Act.put, List.setIfInBounds_toArray, List.set_cons_zero, List.set_cons_succ])
                  first
                    | (refine wpAnyH_take (i := 4) (oi := { dst := _, op := _, type := _, pos := _, after := _, guard := _ }) (v := ?vq4) rfl (by kernel_rfl) (by kernel_rfl) (by kernel_rfl) (fun _ _ _ h => leaves_put 4 rfl (by decide) h) (Or.inl ⟨by rfl, ?yq4⟩) rfl ?rq4; (case yq4 => intro w hSw; subst hSw; go_simp <;> with_reducible rfl); simp only [Act.put, List.setIfInBounds_toArray, List.set_cons_zero, List.set_cons_succ])
                    | (refine wpAnyH_take (i := 4) (oi := { dst := _, op := _, type := _, pos := _, after := _, guard := _ }) (v := undef) rfl (by kernel_rfl) (by kernel_rfl) (by kernel_rfl) (fun _ _ _ h => leaves_put 4 rfl (by decide) h) (Or.inr ⟨by rfl, rfl⟩) rfl ?rq4; simp only [Act.put, List.setIfInBounds_toArray, List.set_cons_zero, List.set_cons_succ])
                  first
                    | (refine wpAnyH_take (i := 5) (oi := { dst := _, op := _, type := _, pos := _, after := _, guard := _ }) (v := ?vq5) rfl (by kernel_rfl) (by kernel_rfl) (by kernel_rfl) (fun _ _ _ h => leaves_put 4 rfl (by decide) h) (Or.inl ⟨by rfl, ?yq5⟩) rfl ?rq5; (case yq5 => intro w hSw; subst hSw; go_simp <;> with_reducible rfl); simp only [Act.put, List.setIfInBounds_toArray, List.set_cons_zero, List.set_cons_succ])
                    | (refine wpAnyH_take (i := 5) (oi := { dst := _, op := _, type := _, pos := _, after := _, guard := _ }) (v := undef) rfl (by kernel_rfl) (by kernel_rfl) (by kernel_rfl) (fun _ _ _ h => leaves_put 4 rfl (by decide) h) (Or.inr ⟨by rfl, rfl⟩) rfl ?rq5; simp only [Act.put, List.setIfInBounds_toArray, List.set_cons_zero, List.set_cons_succ])
                  first
                    | (refine wpAnyH_take (i := 6) (oi := { dst := _, op := _, type := _, pos := _, after := _, guard := _ }) (v := ?vq6) rfl (by kernel_rfl) (by kernel_rfl) (by kernel_rfl) (fun _ _ _ h => leaves_put 4 rfl (by decide) h) (Or.inl ⟨by rfl, ?yq6⟩) rfl ?rq6; (case yq6 => intro w hSw; subst hSw; go_simp <;> with_reducible rfl); simp only [Act.put, List.setIfInBounds_toArray, List.set_cons_zero, List.set_cons_succ])
                    | (refine wpAnyH_take (i := 6) (oi := { dst := _, op := _, type := _, pos := _, after := _, guard := _ }) (v := undef) rfl (by kernel_rfl) (by kernel_rfl) (by kernel_rfl) (fun _ _ _ h => leaves_put 4 rfl (by decide) h) (Or.inr ⟨by rfl, rfl⟩) rfl ?rq6; simp only [Act.put, List.setIfInBounds_toArray, List.set_cons_zero, List.set_cons_succ])
                  first
                    | (refine wpAnyH_take (i := 7) (oi := { dst := _, op := _, type := _, pos := _, after := _, guard := _ }) (v := ?vq7) rfl (by kernel_rfl) (by kernel_rfl) (by kernel_rfl) (fun _ _ _ h => leaves_put 4 rfl (by decide) h) (Or.inl ⟨by rfl, ?yq7⟩) rfl ?rq7; (case yq7 => intro w hSw; subst hSw; go_simp <;> with_reducible rfl); simp only [Act.put, List.setIfInBounds_toArray, List.set_cons_zero, List.set_cons_succ])
                    | (refine wpAnyH_take (i := 7) (oi := { dst := _, op := _, type := _, pos := _, after := _, guard := _ }) (v := undef) rfl (by kernel_rfl) (by kernel_rfl) (by kernel_rfl) (fun _ _ _ h => leaves_put 4 rfl (by decide) h) (Or.inr ⟨by rfl, rfl⟩) rfl ?rq7; simp only [Act.put, List.setIfInBounds_toArray, List.set_cons_zero, List.set_cons_succ])
                  first
                    | (refine wpAnyH_take (i := 8) (oi := { dst := _, op := _, type := _, pos := _, after := _, guard := _ }) (v := ?vq8) rfl (by kernel_rfl) (by kernel_rfl) (by kernel_rfl) (fun _ _ _ h => leaves_put 4 rfl (by decide) h) (Or.inl ⟨by rfl, ?yq8⟩) rfl ?rq8; (case yq8 => intro w hSw; subst hSw; go_simp <;> with_reducible rfl); simp only [Act.put, List.setIfInBounds_toArray, List.set_cons_zero, List.set_cons_succ])
                    | (refine wpAnyH_take (i := 8) (oi := { dst := _, op := _, type := _, pos := _, after := _, guard := _ }) (v := undef) rfl (by kernel_rfl) (by kernel_rfl) (by kernel_rfl) (fun _ _ _ h => leaves_put 4 rfl (by decide) h) (Or.inr ⟨by rfl, rfl⟩) rfl ?rq8; simp only [Act.put, List.setIfInBounds_toArray, List.set_cons_zero, List.set_cons_succ])
                  first
                    | (refine wpAnyH_take (i := 9) (oi := { dst := _, op := _, type := _, pos := _, after := _, guard := _ }) (v := ?vq9) rfl (by kernel_rfl) (by kernel_rfl) (by kernel_rfl) (fun _ _ _ h => leaves_put 4 rfl (by decide) h) (Or.inl ⟨by rfl, ?yq9⟩) rfl ?rq9; (case yq9 => intro w hSw; subst hSw; go_simp <;> with_reducible rfl); simp only [Act.put, List.setIfInBounds_toArray, List.set_cons_zero, List.set_cons_succ])
                    | (refine wpAnyH_take (i := 9) (oi := { dst := _, op := _, type := _, pos := _, after := _, guard := _ }) (v := undef) rfl (by kernel_rfl) (by kernel_rfl) (by kernel_rfl) (fun _ _ _ h => leaves_put 4 rfl (by decide) h) (Or.inr ⟨by rfl, rfl⟩) rfl ?rq9; simp only [Act.put, List.setIfInBounds_toArray, List.set_cons_zero, List.set_cons_succ])
                  first
                    | (refine wpAnyH_take (i := 10) (oi := { dst := _, op := _, type := _, pos := _, after := _, guard := _ }) (v := ?vq10) rfl (by kernel_rfl) (by kernel_rfl) (by kernel_rfl) (fun _ _ _ h => leaves_put 4 rfl (by decide) h) (Or.inl ⟨by rfl, ?yq10⟩) rfl ?rq10; (case yq10 => intro w hSw; subst hSw; go_simp <;> with_reducible rfl); simp only [Act.put, List.setIfInBounds_toArray, List.set_cons_zero, List.set_cons_succ])
                    | (refine wpAnyH_take (i := 10) (oi := { dst := _, op := _, type := _, pos := _, after := _, guard := _ }) (v := undef) rfl (by kernel_rfl) (by kernel_rfl) (by kernel_rfl) (fun _ _ _ h => leaves_put 4 rfl (by decide) h) (Or.inr ⟨by rfl, rfl⟩) rfl ?rq10; simp only [Act.put, List.setIfInBounds_toArray, List.set_cons_zero, List.set_cons_succ])
                  first
                    | (refine wpAnyH_take (i := 11) (oi := { dst := _, op := _, type := _, pos := _, after := _, guard := _ }) (v := ?vq11) rfl (by kernel_rfl) (by kernel_rfl) (by kernel_rfl) (fun _ _ _ h => leaves_put 4 rfl (by decide) h) (Or.inl ⟨by rfl, ?yq11⟩) rfl ?rq11; (case yq11 => intro w hSw; subst hSw; go_simp <;> with_reducible rfl); simp only [Act.put, List.setIfInBounds_toArray, List.set_cons_zero, List.set_cons_succ])
                    | (refine wpAnyH_take (i := 11) (oi := { dst := _, op := _, type := _, pos := _, after := _, guard := _ }) (v := undef) rfl (by kernel_rfl) (by kernel_rfl) (by kernel_rfl) (fun _ _ _ h => leaves_put 4 rfl (by decide) h) (Or.inr ⟨by rfl, rfl⟩) rfl ?rq11; simp only [Act.put, List.setIfInBounds_toArray, List.set_cons_zero, List.set_cons_succ])
                  first
                    | (refine wpAnyH_take (i := 12) (oi := { dst := _, op := _, type := _, pos := _, after := _, guard := _ }) (v := ?vq12) rfl (by kernel_rfl) (by kernel_rfl) (by kernel_rfl) (fun _ _ _ h => leaves_put 4 rfl (by decide) h) (Or.inl ⟨by rfl, ?yq12⟩) rfl ?rq12; (case yq12 => intro w hSw; subst hSw; go_simp <;> with_reducible rfl); simp only [Act.put, List.setIfInBounds_toArray, List.set_cons_zero, List.set_cons_succ])
                    | (refine wpAnyH_take (i := 12) (oi := { dst := _, op := _, type := _, pos := _, after := _, guard := _ }) (v := undef) rfl (by kernel_rfl) (by kernel_rfl) (by kernel_rfl) (fun _ _ _ h => leaves_put 4 rfl (by decide) h) (Or.inr ⟨by rfl, rfl⟩) rfl ?rq12; simp only [Act.put, List.setIfInBounds_toArray, List.set_cons_zero, List.set_cons_succ])
                  first
                    | (refine wpAnyH_take (i := 13) (oi := { dst := _, op := _, type := _, pos := _, after := _, guard := _ }) (v := ?vq13) rfl (by kernel_rfl) (by kernel_rfl) (by kernel_rfl) (fun _ _ _ h => leaves_put 4 rfl (by decide) h) (Or.inl ⟨by rfl, ?yq13⟩) rfl ?rq13; (case yq13 => intro w hSw; subst hSw; go_simp <;> with_reducible rfl); simp only [Act.put, List.setIfInBounds_toArray, List.set_cons_zero, List.set_cons_succ])
                    | (refine wpAnyH_take (i := 13) (oi := { dst := _, op := _, type := _, pos := _, after := _, guard := _ }) (v := undef) rfl (by kernel_rfl) (by kernel_rfl) (by kernel_rfl) (fun _ _ _ h => leaves_put 4 rfl (by decide) h) (Or.inr ⟨by rfl, rfl⟩) rfl ?rq13; simp only [Act.put, List.setIfInBounds_toArray, List.set_cons_zero, List.set_cons_succ])
                  first
                    | (refine wpAnyH_take (i := 14) (oi := { dst := _, op := _, type := _, pos := _, after := _, guard := _ }) (v := ?vq14) rfl (by kernel_rfl) (by kernel_rfl) (by kernel_rfl) (fun _ _ _ h => leaves_put 4 rfl (by decide) h) (Or.inl ⟨by rfl, ?yq14⟩) rfl ?rq14; (case yq14 => intro w hSw; subst hSw; go_simp <;> with_reducible rfl); simp only [Act.put, List.setIfInBounds_toArray, List.set_cons_zero, List.set_cons_succ])
                    | (refine wpAnyH_take (i := 14) (oi := { dst := _, op := _, type := _, pos := _, after := _, guard := _ }) (v := undef) rfl (by kernel_rfl) (by kernel_rfl) (by kernel_rfl) (fun _ _ _ h => leaves_put 4 rfl (by decide) h) (Or.inr ⟨by rfl, rfl⟩) rfl ?rq14; simp only [Act.put, List.setIfInBounds_toArray, List.set_cons_zero, List.set_cons_succ])
                  first
                    | (refine wpAnyH_take (i := 15) (oi := { dst := _, op := _, type := _, pos := _, after := _, guard := _ }) (v := ?vq15) rfl (by kernel_rfl) (by kernel_rfl) (by kernel_rfl) (fun _ _ _ h => leaves_put 4 rfl (by decide) h) (Or.inl ⟨by rfl, ?yq15⟩) rfl ?rq15; (case yq15 => intro w hSw; subst hSw; go_simp <;> with_reducible rfl); simp only [Act.put, List.setIfInBounds_toArray, List.set_cons_zero, List.set_cons_succ])
                    | (refine wpAnyH_take (i := 15) (oi := { dst := _, op := _, type := _, pos := _, after := _, guard := _ }) (v := undef) rfl (by kernel_rfl) (by kernel_rfl) (by kernel_rfl) (fun _ _ _ h => leaves_put 4 rfl (by decide) h) (Or.inr ⟨by rfl, rfl⟩) rfl ?rq15; simp only [Act.put, List.setIfInBounds_toArray, List.set_cons_zero, List.set_cons_succ])
                  first
                    | (refine wpAnyH_take (i := 16) (oi := { dst := _, op := _, type := _, pos := _, after := _, guard := _ }) (v := ?vq16) rfl (by kernel_rfl) (by kernel_rfl) (by kernel_rfl) (fun _ _ _ h => leaves_put 4 rfl (by decide) h) (Or.inl ⟨by rfl, ?yq16⟩) rfl ?rq16; (case yq16 => intro w hSw; subst hSw; go_simp <;> with_reducible rfl); simp only [Act.put, List.setIfInBounds_toArray, List.set_cons_zero, List.set_cons_succ])
                    | (refine wpAnyH_take (i := 16) (oi := { dst := _, op := _, type := _, pos := _, after := _, guard := _ }) (v := undef) rfl (by kernel_rfl) (by kernel_rfl) (by kernel_rfl) (fun _ _ _ h => leaves_put 4 rfl (by decide) h) (Or.inr ⟨by rfl, rfl⟩) rfl ?rq16; simp only [Act.put, List.setIfInBounds_toArray, List.set_cons_zero, List.set_cons_succ])
                  first
                    | (refine wpAnyH_take (i := 17) (oi := { dst := _, op := _, type := _, pos := _, after := _, guard := _ }) (v := ?vq17) rfl (by kernel_rfl) (by kernel_rfl) (by kernel_rfl) (fun _ _ _ h => leaves_put 4 rfl (by decide) h) (Or.inl ⟨by rfl, ?yq17⟩) rfl ?rq17; (case yq17 => intro w hSw; subst hSw; go_simp <;> with_reducible rfl); simp only [Act.put, List.setIfInBounds_toArray, List.set_cons_zero, List.set_cons_succ])
                    | (refine wpAnyH_take (i := 17) (oi := { dst := _, op := _, type := _, pos := _, after := _, guard := _ }) (v := undef) rfl (by kernel_rfl) (by kernel_rfl) (by kernel_rfl) (fun _ _ _ h => leaves_put 4 rfl (by decide) h) (Or.inr ⟨by rfl, rfl⟩) rfl ?rq17; simp only [Act.put, List.setIfInBounds_toArray, List.set_cons_zero, List.set_cons_succ])
                  first
                    | (refine wpAnyH_take (i := 18) (oi := { dst := _, op := _, type := _, pos := _, after := _, guard := _ }) (v := ?vq18) rfl (by kernel_rfl) (by kernel_rfl) (by kernel_rfl) (fun _ _ _ h => leaves_put 4 rfl (by decide) h) (Or.inl ⟨by rfl, ?yq18⟩) rfl ?rq18; (case yq18 => intro w hSw; subst hSw; go_simp <;> with_reducible rfl); simp only [Act.put, List.setIfInBounds_toArray, List.set_cons_zero, List.set_cons_succ])
                    | (refine wpAnyH_take (i := 18) (oi := { dst := _, op := _, type := _, pos := _, after := _, guard := _ }) (v := undef) rfl (by kernel_rfl) (by kernel_rfl) (by kernel_rfl) (fun _ _ _ h => leaves_put 4 rfl (by decide) h) (Or.inr ⟨by rfl, rfl⟩) rfl ?rq18; simp only [Act.put, List.setIfInBounds_toArray, List.set_cons_zero, List.set_cons_succ])
                  first
                    | (refine wpAnyH_take (i := 19) (oi := { dst := _, op := _, type := _, pos := _, after := _, guard := _ }) (v := ?vq19) rfl (by kernel_rfl) (by kernel_rfl) (by kernel_rfl) (fun _ _ _ h => leaves_put 4 rfl (by decide) h) (Or.inl ⟨by rfl, ?yq19⟩) rfl ?rq19; (case yq19 => intro w hSw; subst hSw; go_simp <;> with_reducible rfl); simp only [Act.put, List.setIfInBounds_toArray, List.set_cons_zero, List.set_cons_succ])
                    | (refine wpAnyH_take (i := 19) (oi := { dst := _, op := _, type := _, pos := _, after := _, guard := _ }) (v := undef) rfl (by kernel_rfl) (by kernel_rfl) (by kernel_rfl) (fun _ _ _ h => leaves_put 4 rfl (by decide) h) (Or.inr ⟨by rfl, rfl⟩) rfl ?rq19; simp only [Act.put, List.setIfInBounds_toArray, List.set_cons_zero, List.set_cons_succ])
                  first
                    | (refine wpAnyH_take (i := 20) (oi := { dst := _, op := _, type := _, pos := _, after := _, guard := _ }) (v := ?vq20) rfl (by kernel_rfl) (by kernel_rfl) (by kernel_rfl) (fun _ _ _ h => leaves_put 4 rfl (by decide) h) (Or.inl ⟨by rfl, ?yq20⟩) rfl ?rq20; (case yq20 => intro w hSw; subst hSw; go_simp <;> with_reducible rfl); simp only [Act.put, List.setIfInBounds_toArray, List.set_cons_zero, List.set_cons_succ])
                    | (refine wpAnyH_take (i := 20) (oi := { dst := _, op := _, type := _, pos := _, after := _, guard := _ }) (v := undef) rfl (by kernel_rfl) (by kernel_rfl) (by kernel_rfl) (fun _ _ _ h => leaves_put 4 rfl (by decide) h) (Or.inr ⟨by rfl, rfl⟩) rfl ?rq20; simp only [Act.put, List.setIfInBounds_toArray, List.set_cons_zero, List.set_cons_succ])
                  first
                    | (refine wpAnyH_take (i := 21) (oi := { dst := _, op := _, type := _, pos := _, after := _, guard := _ }) (v := ?vq21) rfl (by kernel_rfl) (by kernel_rfl) (by kernel_rfl) (fun _ _ _ h => leaves_put 4 rfl (by decide) h) (Or.inl ⟨by rfl, ?yq21⟩) rfl ?rq21; (case yq21 => intro w hSw; subst hSw; go_simp <;> with_reducible rfl); simp only [Act.put, List.setIfInBounds_toArray, List.set_cons_zero, List.set_cons_succ])
                    | (refine wpAnyH_take (i := 21) (oi := { dst := _, op := _, type := _, pos := _, after := _, guard := _ }) (v := undef) rfl (by kernel_rfl) (by kernel_rfl) (by kernel_rfl) (fun _ _ _ h => leaves_put 4 rfl (by decide) h) (Or.inr ⟨by rfl, rfl⟩) rfl ?rq21; simp only [Act.put, List.setIfInBounds_toArray, List.set_cons_zero, List.set_cons_succ])
                  first
                    | (refine wpAnyH_take (i := 22) (oi := { dst := _, op := _, type := _, pos := _, after := _, guard := _ }) (v := ?vq22) rfl (by kernel_rfl) (by kernel_rfl) (by kernel_rfl) (fun _ _ _ h => leaves_put 4 rfl (by decide) h) (Or.inl ⟨by rfl, ?yq22⟩) rfl ?rq22; (case yq22 => intro w hSw; subst hSw; go_simp <;> with_reducible rfl); simp only [Act.put, List.setIfInBounds_toArray, List.set_cons_zero, List.set_cons_succ])
                    | (refine wpAnyH_take (i := 22) (oi := { dst := _, op := _, type := _, pos := _, after := _, guard := _ }) (v := undef) rfl (by kernel_rfl) (by kernel_rfl) (by kernel_rfl) (fun _ _ _ h => leaves_put 4 rfl (by decide) h) (Or.inr ⟨by rfl, rfl⟩) rfl ?rq22; simp only [Act.put, List.setIfInBounds_toArray, List.set_cons_zero, List.set_cons_succ])
                  first
                    | (refine wpAnyH_take (i := 23) (oi := { dst := _, op := _, type := _, pos := _, after := _, guard := _ }) (v := ?vq23) rfl (by kernel_rfl) (by kernel_rfl) (by kernel_rfl) (fun _ _ _ h => leaves_put 4 rfl (by decide) h) (Or.inl ⟨by rfl, ?yq23⟩) rfl ?rq23; (case yq23 => intro w hSw; subst hSw; go_simp <;> with_reducible rfl); simp only [Act.put, List.setIfInBounds_toArray, List.set_cons_zero, List.set_cons_succ])
                    | (refine wpAnyH_take (i := 23) (oi := { dst := _, op := _, type := _, pos := _, after := _, guard := _ }) (v := undef) rfl (by kernel_rfl) (by kernel_rfl) (by kernel_rfl) (fun _ _ _ h => leaves_put 4 rfl (by decide) h) (Or.inr ⟨by rfl, rfl⟩) rfl ?rq23; simp only [Act.put, List.setIfInBounds_toArray, List.set_cons_zero, List.set_cons_succ])
                  first
                    | (refine wpAnyH_take (i := 24) (oi := { dst := _, op := _, type := _, pos := _, after := _, guard := _ }) (v := ?vq24) rfl (by kernel_rfl) (by kernel_rfl) (by kernel_rfl) (fun _ _ _ h => leaves_put 4 rfl (by decide) h) (Or.inl ⟨by rfl, ?yq24⟩) rfl ?rq24; (case yq24 => intro w hSw; subst hSw; go_simp <;> with_reducible rfl); simp only [Act.put, List.setIfInBounds_toArray, List.set_cons_zero, List.set_cons_succ])
                    | (refine wpAnyH_take (i := 24) (oi := { dst := _, op := _, type := _, pos := _, after := _, guard := _ }) (v := undef) rfl (by kernel_rfl) (by kernel_rfl) (by kernel_rfl) (fun _ _ _ h => leaves_put 4 rfl (by decide) h) (Or.inr ⟨by rfl, rfl⟩) rfl ?rq24; simp only [Act.put, List.setIfInBounds_toArray, List.set_cons_zero, List.set_cons_succ])
                  first
                    | (refine wpAnyH_take (i := 25) (oi := { dst := _, op := _, type := _, pos := _, after := _, guard := _ }) (v := ?vq25) rfl (by kernel_rfl) (by kernel_rfl) (by kernel_rfl) (fun _ _ _ h => leaves_put 4 rfl (by decide) h) (Or.inl ⟨by rfl, ?yq25⟩) rfl ?rq25; (case yq25 => intro w hSw; subst hSw; go_simp <;> with_reducible rfl); simp only [Act.put, List.setIfInBounds_toArray, List.set_cons_zero, List.set_cons_succ])
                    | (refine wpAnyH_take (i := 25) (oi := { dst := _, op := _, type := _, pos := _, after := _, guard := _ }) (v := undef) rfl (by kernel_rfl) (by kernel_rfl) (by kernel_rfl) (fun _ _ _ h => leaves_put 4 rfl (by decide) h) (Or.inr ⟨by rfl, rfl⟩) rfl ?rq25; simp only [Act.put, List.setIfInBounds_toArray, List.set_cons_zero, List.set_cons_succ])
                  first
                    | (refine wpAnyH_take (i := 26) (oi := { dst := _, op := _, type := _, pos := _, after := _, guard := _ }) (v := ?vq26) rfl (by kernel_rfl) (by kernel_rfl) (by kernel_rfl) (fun _ _ _ h => leaves_put 4 rfl (by decide) h) (Or.inl ⟨by rfl, ?yq26⟩) rfl ?rq26; (case yq26 => intro w hSw; subst hSw; go_simp <;> with_reducible rfl); simp only [Act.put, List.setIfInBounds_toArray, List.set_cons_zero, List.set_cons_succ])
                    | (refine wpAnyH_take (i := 26) (oi := { dst := _, op := _, type := _, pos := _, after := _, guard := _ }) (v := undef) rfl (by kernel_rfl) (by kernel_rfl) (by kernel_rfl) (fun _ _ _ h => leaves_put 4 rfl (by decide) h) (Or.inr ⟨by rfl, rfl⟩) rfl ?rq26; simp only [Act.put, List.setIfInBounds_toArray, List.set_cons_zero, List.set_cons_succ])
                  first
                    | (refine wpAnyH_take (i := 27) (oi := { dst := _, op := _, type := _, pos := _, after := _, guard := _ }) (v := ?vq27) rfl (by kernel_rfl) (by kernel_rfl) (by kernel_rfl) (fun _ _ _ h => leaves_put 4 rfl (by decide) h) (Or.inl ⟨by rfl, ?yq27⟩) rfl ?rq27; (case yq27 => intro w hSw; subst hSw; go_simp <;> with_reducible rfl); simp only [Act.put, List.setIfInBounds_toArray, List.set_cons_zero, List.set_cons_succ])
                    | (refine wpAnyH_take (i := 27) (oi := { dst := _, op := _, type := _, pos := _, after := _, guard := _ }) (v := undef) rfl (by kernel_rfl) (by kernel_rfl) (by kernel_rfl) (fun _ _ _ h => leaves_put 4 rfl (by decide) h) (Or.inr ⟨by rfl, rfl⟩) rfl ?rq27; simp only [Act.put, List.setIfInBounds_toArray, List.set_cons_zero, List.set_cons_succ])
                  refine wpAnyH_done (by kernel_rfl) ?_ _
                  go_wp2_with fail
                  have ho : Off (fun k => k = G) W3 (W3.setCell ⟨G, t, none⟩ (.bool q)) := Off.setCell (Fr := fun k => k = G) (Off.refl _ _) (a := ⟨G, t, none⟩) rfl _
                  have T4 := T3.setOn t q
                  rw [← HS.out] at T4
                  refine ⟨⟨t + 1, j + 1, t, rfl, by simp, by omega, by omega, by omega, HD.out, T4.keep (Below.refl _ _).drew, X3.off ho.drew (by omega), own_off A3 ho.drew (fun k hk he => ?_)⟩, by simp [intOf]; omega⟩
                  have := (World.ownsRow.lt A3 k hk).1
                  omega
              · obtain rfl : j = R.length := by omega
                have hq : ∀ y ∈ L.drop i, Fi.amiss y.rule s.l s.now = y.on := by
                  rcases rings_next s.l s.now (L.drop i) i with ⟨-, h2⟩ | ⟨m, x, hm1, hm2, -, -⟩
                  · exact h2
                  · rw [hm2, List.drop_length] at hdr; cases hdr
                rw [onAt_end s.l s.now L i hq, hL'] at T
                clear hq hdr A hp
                obtain ⟨i4, hi4, hz0, hz1, hz2⟩ := info_parts Try.info4
                have HI := Lib.hid hi4
                have HZ := Lib.hid (And.intro hz0 (And.intro hz1 hz2))
                clear hi4 hz0 hz1 hz2
                go_wp2_with (at_make; refine wpList_make_full wr rfl (.tmp 98) (.tmp 98) 46 rfl wr.heap.size 4 i4 (.bool false) 1 Try.underlying46 HI.out HZ.out.1 HZ.out.2.1 .i64 .i64 _ _ rules.length rfl rfl rfl rfl (by rw [HZ.out.2.2]; omega) (by unfold maxLen; omega) (Nat.le_refl _) ?_; intro w5 hown5 hgr)
                have hb5 : Below wr.heap.size wr w5 := (Below.refl _ _).grown hgr (Nat.le_refl _) (fun k hk => by cases hk)
                have hcells : (madeCells (Value.bool false).cells (rules.length * 1)).toList = (areAt L' 0).map .bool := by
                  rw [Nat.mul_one, areAt_0, List.map_replicate, hLn, hn]
                  exact toList_madeCells_one _ _
                rw [hcells] at hown5
                have hD5 := (World.ownsRow.lt hown5 wr.heap.size rfl).2
                have hGr := T.Gb.2
                have hbr := T.watch.lt
                have hvr := fun k (hk : v.ownBlock = some k) => (World.ownsRow.lt T.watch.own k hk).2
                have hcr := X.lt
                have hNr := T.res.lt
                replace T := T.keep hb5
                replace X := X.keep hb5
                clear hb5 hgr hcells HI HZ
                obtain ⟨D, hD⟩ : ∃ D, wr.heap.size = D := ⟨_, rfl⟩
                rw [hD] at hown5 hD5 hGr hbr hvr hcr hNr ⊢
                have ha5 := Below.al (Below.refl w5.heap.size w5) (.cells #[.slice (some ⟨D, 0, none⟩) rules.length rules.length] 46)
                have B5 := NumAt.mk w5 46 (.slice (some ⟨D, 0, none⟩) rules.length rules.length) w5.heap.size rfl
                replace T := T.keep ha5
                replace X := X.keep ha5
                replace hown5 := ownN_keepAt hown5 (fun j hj => ha5.block j (World.ownsRow.lt hown5 j hj).2)
                clear ha5
                generalize w5.alloc (.cells #[.slice (some ⟨D, 0, none⟩) rules.length rules.length] 46) = W5 at *
                obtain ⟨bo, hbo⟩ : ∃ bo, w5.heap.size = bo := ⟨_, rfl⟩
                rw [hbo] at B5 hD5 ⊢
                refine (on_any _ W5).mono ?_
                rintro e w8 ⟨bx, rfl, hBx, hbx, hc⟩
                replace T := T.keep hc
                replace X := X.keep hc
                replace B5 := B5.keep hc
                replace hown5 := ownN_keepAt hown5 (fun j hj => hc.block j (World.ownsRow.lt hown5 j hj).2)
                have hD8 := (World.ownsRow.lt hown5 D rfl).2
                have hN8 := T.res.lt
                clear hc hbo hbx hD hM hR
                go_wp2_with fail
                refine wp_rangeFunc_N (gf := 44) (lb := #[.pointer (some ⟨bx, 0, none⟩)]) rfl (enters_of Try.func44 (by kernel_rfl) rfl)
                  (on_seq 8 (by omega) b v L' s.now (by omega) bx (fun k => k = D) _ T.watch hBx) (fun k hk => by subst hk; exact hD8) (fun _ => rfl)
                  (fun k W => Off (fun k => k = D) w8 W ∧ Below N w W ∧ ∃ i, i ≤ L'.length ∧ (onsL L').drop k = onsFrom i (L'.drop i) ∧ W.ownsRow D 4 1 (.slice (some ⟨D, 0, none⟩) rules.length rules.length) rules.length ((areAt L' i).map .bool)) (fun _ _ _ => False)
                  (fun _ A B hs hb => ⟨hs.1.andBelow hb (Nat.le_refl _), hs.2.1.trans (hb.mono (Nat.le_of_lt hN8)), by
                    obtain ⟨i, h1, h2, h3⟩ := hs.2.2
                    exact ⟨i, h1, h2, ownN_keepAt h3 (fun j hj => hb.block j (by have hj' : D = j := by simpa [Value.ownBlock] using hj
                                                                                 omega))⟩⟩) (fun _ _ _ _ h _ => h) ⟨Off.refl _ _, T.bel, 0, Nat.zero_le _, by rw [onsL_from]; rfl, hown5⟩ ?a1 ?assign ?body ?done ?stop
                case assign =>
                  intro l' k' W K hK
                  have HK := Lib.hid hK
                  clear hK
                  simp only [onEnc]
                  gi_wp2
                  exact HK.out
                case body =>
                  rintro l' k' W hkN ⟨hO, hBW, i', hi', hdr, hrow⟩ hzW
                  rcases ons_next (L'.drop i') i' with ⟨h1, -⟩ | ⟨m, x, hm1, hm2, hm3, hm4⟩
                  · exfalso
                    rw [h1] at hdr
                    have := congrArg List.length hdr
                    rw [List.length_drop] at this
                    simp only [List.length_nil] at this
                    omega
                  · have hlm : i' + m < L'.length := by
                      have := (List.getElem?_eq_some_iff.1 hm1).1
                      rw [List.length_drop] at this; omega
                    have hgx : L'[i' + m]? = some x := by rw [← hm1, List.getElem?_drop]
                    rw [hm2, List.drop_eq_getElem_cons hkN] at hdr
                    obtain ⟨hRj, hdr'⟩ := List.cons.inj hdr
                    have e0 : ((onsL L')[k']?.getD (0, 0)).1 = ((i' + m : Nat) : Int) := by rw [List.getElem?_eq_getElem hkN, hRj]; rfl
                    have e1 : ((onsL L')[k']?.getD (0, 0)).2 = x.since := by rw [List.getElem?_eq_getElem hkN, hRj]; rfl
                    have hstep := areAt_step L' i' m x hm1 hm3 hm4
                    have hwas := areAt_get L' i' (i' + m) x hgx
                    rw [if_neg (by omega)] at hwas
                    rw [List.drop_drop, show i' + (m + 1) = i' + m + 1 by omega] at hdr'
                    have cB := (hO.num B5 (by omega)).cell
                    clear hdr hRj hm1 hm2 hm3 hm4 hgx
                    rw [e0, e1]
                    clear e0 e1
                    have hit : i' ≤ i' + m := by omega
                    generalize i' + m = t at *
                    obtain ⟨cA, fA⟩ := ownN_cell hrow (j := t) (u := .bool false) (by rw [List.getElem?_map, hwas]; rfl)
                    have hnl : ¬ ((rules.length : Int) ≤ (t : Int)) := by omega
                    have htl : (t : Int) < (rules.length : Int) := by omega
                    have HD := Lib.hid hdr'
                    have HS := Lib.hid hstep
                    clear hdr' hstep hwas
                    gi_wp2
                    refine ⟨Off.setCell (Fr := fun k => k = D) (Off.refl _ _) (a := ⟨D, t, none⟩) rfl _, hO.setCell (a := ⟨D, t, none⟩) rfl _, hBW.setCell (p := ⟨D, t, none⟩) (by show N ≤ D; omega) _, t + 1, by omega, HD.out, ?_⟩
                    rw [HS.out, List.map_set]
                    exact ownN_set hrow t _
                case stop => rintro D c k W hD hkN h; exact h.elim
                case done =>
                  rintro D' W hD' ⟨hO, hBW, i', hi', hdr, hrow⟩ hK
                  have hq : ∀ y ∈ L'.drop i', y.on = false := by
                    rcases ons_next (L'.drop i') i' with ⟨-, h2⟩ | ⟨m, x, hm1, hm2, -, -⟩
                    · exact h2
                    · rw [hm2, List.drop_length] at hdr; cases hdr
                  rw [areAt_end L' i' hq] at hrow
                  have T6 := T.off hO hBW (by omega) (by omega) (fun k hk he => by have := hvr k hk; omega) (by omega) (fun k hk => row_cells hown5 k (by subst hk; rfl))
                  have X6 := X.off hO (by omega)
                  have B6 := hO.num B5 (by omega)
                  have hm := T.marks.cons T6.marks (by omega) hD' hK
                  have T7 : TI N w W b v G L' s.now (L'.map (·.on)) ({ target := .collected D', args := #[] } :: ds) := ⟨T6.res, T6.watch, T6.on, T6.hb, T6.hv, T6.apart, hm, T6.bel⟩
                  clear T6 hm hq hdr hi' hO hBW hK T X B5 hown5 hBx hD' hD8 hN8 hD5
                  dsimp only
                  generalize ({ target := .collected D', args := #[] } : Deferred) :: ds = ds' at *
                  go_wp2_with fail
                  go_loopw [119] (fun ii W => ∃ i : Nat, ii = .int .i64 i ∧ i ≤ L'.length ∧ TI N w W b v G L' s.now (L'.map (·.on)) ds' ∧ StepAt W c s ∧ NumAt W bo 46 (.slice (some ⟨D, 0, none⟩) rules.length rules.length) ∧ W.ownsRow D 4 1 (.slice (some ⟨D, 0, none⟩) rules.length rules.length) rules.length ((L'.map (·.on)).map .bool)) (fun ii _ => rules.length - (intOf ii).toNat)
                  case atStart => exact ⟨0, rfl, Nat.zero_le _, T7, X6, B6, hrow⟩
                  case round =>
                    clear T7 X6 B6 hrow
                    obtain ⟨i3, rfl, hi3, T, X, B, hrow⟩ := hrel
                    by_cases hil : i3 < rules.length
                    · have hil' : (i3 : Int) < (rules.length : Int) := by omega
                      obtain ⟨br, offr, rfl, hbrr, hcr3⟩ := Rus.at (Row.keep hr (hN ▸ T.bel)) (by omega)
                      obtain ⟨r0, r1, r2⟩ := hcr3 i3 hil
                      have hL3 : (L'.map (·.on))[i3]? = some (Fi.amiss rules[i3] s.l s.now) := by
                        have hi : i3 < L.length := by omega
                        have h1 : L[i3].rule = rules[i3] := by
                          have := congrArg (fun x => x[i3]?) hrule
                          simp only [List.getElem?_map, List.getElem?_eq_getElem hi, List.getElem?_eq_getElem hil, Option.map_some] at this
                          exact Option.some.inj this
                        rw [← hL', ← h1]
                        simp [Fi.look, look1_on, List.getElem?_eq_getElem hi]
                      clear hcr3
                      generalize rules[i3] = r at *
                      generalize hqe : Fi.amiss r s.l s.now = q at hL3
                      have hal := Below.al (Below.refl wr.heap.size wr) (.cells #[.int .u8 r.kind, .int .u64 r.job, .int .i64 r.n] 34)
                      have M : M3 N b c wr.heap.size bo D G i3 w v (.slice xo s.l.length xc) r s L' ds' rules.length q (wr.alloc (.cells #[.int .u8 r.kind, .int .u64 r.job, .int .i64 r.n] 34)) := ⟨T.keep hal, X.keep hal, B.keep hal, ownN_keepAt hrow (fun j hj => hal.block j (World.ownsRow.lt hrow j hj).2), RuleAt.new wr 34 r _ rfl, hx, hL3⟩
                      have hAm : ∀ W, M3 N b c wr.heap.size bo D G i3 w v (.slice xo s.l.length xc) r s L' ds' rules.length q W → Calls Try.prog 15 #[ruleV r, .slice xo s.l.length xc, .int .i64 s.now] W fun e w' => e = .returned (.bool q) ∧ Below W.heap.size W w' := fun W m => by
                        have := amiss_any r s.l (.slice xo s.l.length xc) s.now hfa hnow (by omega) W (hFw.keep (hN ▸ m.ti.bel))
                        rw [hqe] at this
                        exact this
                      have hAm := Lib.hid hAm
                      clear T X B hrow hal hL3 hqe
                      go_upto_region 30 with fail
                      generalize wr.alloc (.cells #[.int .u8 r.kind, .int .u64 r.job, .int .i64 r.n] 34) = W3 at *
                      clear r0 r1 r2 hbrr
                      generalize wr.heap.size = e at *
                      refine wp_region_held_drew (S := fun w' => Below W3.drew.heap.size W3.drew w') (by kernel_rfl) (Below.refl _ _) (fun _ => ?_)
                      have M0 := M.keep (Below.refl W3.heap.size W3).drew
                      generalize W3.drew = x0 at *
                      have e0 := fun w' (h : Below x0.heap.size x0 w') => (M0.keep h).rule.facts.1
                      have e1 := fun w' (h : Below x0.heap.size x0 w') => (M0.keep h).rule.facts.2.1
                      have e2 := fun w' (h : Below x0.heap.size x0 w') => (M0.keep h).rule.facts.2.2
                      have e3 := fun w' (h : Below x0.heap.size x0 w') => (M0.keep h).box.cell
                      have e4 := fun w' (h : Below x0.heap.size x0 w') => (M0.keep h).ca
                      have e5 := fun w' (h : Below x0.heap.size x0 w') => (M0.keep h).cg
                      have e6 := fun w' (h : Below x0.heap.size x0 w') => (M0.keep h).c4
                      have e7 := fun w' (h : Below x0.heap.size x0 w') => (M0.keep h).step.facts.2.2.2.2.2
                      have z0 : Below x0.heap.size x0 x0 := Below.refl _ _
                      first
                        | (refine wpAnyH_take (i := 0) (oi := { dst := _, op := _, type := _, pos := _, after := _, guard := _ }) (v := ?vm0) rfl (by kernel_rfl) (by kernel_rfl) (by kernel_rfl) (fun _ _ _ h => leaves_put 4 rfl (by decide) h) (Or.inl ⟨by rfl, ?ym0⟩) (by assumption) ?rm0; (case ym0 => intro w hSw; go_simp <;> with_reducible rfl); simp only [Act.put, List.setIfInBounds_toArray, List.set_cons_zero, List.set_cons_succ])
                        | (refine wpAnyH_take (i := 0) (oi := { dst := _, op := _, type := _, pos := _, after := _, guard := _ }) (v := undef) rfl (by kernel_rfl) (by kernel_rfl) (by kernel_rfl) (fun _ _ _ h => leaves_put 4 rfl (by decide) h) (Or.inr ⟨by rfl, rfl⟩) (by assumption) ?rm0; simp only [Act.put, List.setIfInBounds_toArray, List.set_cons_zero, List.set_cons_succ])
                      first
                        | (refine wpAnyH_take (i := 1) (oi := { dst := _, op := _, type := _, pos := _, after := _, guard := _ }) (v := ?vm1) rfl (by kernel_rfl) (by kernel_rfl) (by kernel_rfl) (fun _ _ _ h => leaves_put 4 rfl (by decide) h) (Or.inl ⟨by rfl, ?ym1⟩) (by assumption) ?rm1; (case ym1 => intro w hSw; go_simp <;> with_reducible rfl); simp only [Act.put, List.setIfInBounds_toArray, List.set_cons_zero, List.set_cons_succ])
                        | (refine wpAnyH_take (i := 1) (oi := { dst := _, op := _, type := _, pos := _, after := _, guard := _ }) (v := undef) rfl (by kernel_rfl) (by kernel_rfl) (by kernel_rfl) (fun _ _ _ h => leaves_put 4 rfl (by decide) h) (Or.inr ⟨by rfl, rfl⟩) (by assumption) ?rm1; simp only [Act.put, List.setIfInBounds_toArray, List.set_cons_zero, List.set_cons_succ])
                      first
                        | (refine wpAnyH_take (i := 2) (oi := { dst := _, op := _, type := _, pos := _, after := _, guard := _ }) (v := ?vm2) rfl (by kernel_rfl) (by kernel_rfl) (by kernel_rfl) (fun _ _ _ h => leaves_put 4 rfl (by decide) h) (Or.inl ⟨by rfl, ?ym2⟩) (by assumption) ?rm2; (case ym2 => intro w hSw; go_simp <;> with_reducible rfl); simp only [Act.put, List.setIfInBounds_toArray, List.set_cons_zero, List.set_cons_succ])
                        | (refine wpAnyH_take (i := 2) (oi := { dst := _, op := _, type := _, pos := _, after := _, guard := _ }) (v := undef) rfl (by kernel_rfl) (by kernel_rfl) (by kernel_rfl) (fun _ _ _ h => leaves_put 4 rfl (by decide) h) (Or.inr ⟨by rfl, rfl⟩) (by assumption) ?rm2; simp only [Act.put, List.setIfInBounds_toArray, List.set_cons_zero, List.set_cons_succ])
                      first
                        | (refine wpAnyH_take (i := 3) (oi := { dst := _, op := _, type := _, pos := _, after := _, guard := _ }) (v := ?vm3) rfl (by kernel_rfl) (by kernel_rfl) (by kernel_rfl) (fun _ _ _ h => leaves_put 4 rfl (by decide) h) (Or.inl ⟨by rfl, ?ym3⟩) (by assumption) ?rm3; (case ym3 => intro w hSw; go_simp <;> with_reducible rfl); simp only [Act.put, List.setIfInBounds_toArray, List.set_cons_zero, List.set_cons_succ])
                        | (refine wpAnyH_take (i := 3) (oi := { dst := _, op := _, type := _, pos := _, after := _, guard := _ }) (v := undef) rfl (by kernel_rfl) (by kernel_rfl) (by kernel_rfl) (fun _ _ _ h => leaves_put 4 rfl (by decide) h) (Or.inr ⟨by rfl, rfl⟩) (by assumption) ?rm3; simp only [Act.put, List.setIfInBounds_toArray, List.set_cons_zero, List.set_cons_succ])
                      first
                        | (refine wpAnyH_take (i := 4) (oi := { dst := _, op := _, type := _, pos := _, after := _, guard := _ }) (v := ?vm4) rfl (by kernel_rfl) (by kernel_rfl) (by kernel_rfl) (fun _ _ _ h => leaves_put 4 rfl (by decide) h) (Or.inl ⟨by rfl, ?ym4⟩) (by assumption) ?rm4; (case ym4 => intro w hSw; go_simp <;> with_reducible rfl); simp only [Act.put, List.setIfInBounds_toArray, List.set_cons_zero, List.set_cons_succ])
                        | (refine wpAnyH_take (i := 4) (oi := { dst := _, op := _, type := _, pos := _, after := _, guard := _ }) (v := undef) rfl (by kernel_rfl) (by kernel_rfl) (by kernel_rfl) (fun _ _ _ h => leaves_put 4 rfl (by decide) h) (Or.inr ⟨by rfl, rfl⟩) (by assumption) ?rm4; simp only [Act.put, List.setIfInBounds_toArray, List.set_cons_zero, List.set_cons_succ])
                      first
                        | (refine wpAnyH_take (i := 5) (oi := { dst := _, op := _, type := _, pos := _, after := _, guard := _ }) (v := ?vm5) rfl (by kernel_rfl) (by kernel_rfl) (by kernel_rfl) (fun _ _ _ h => leaves_put 4 rfl (by decide) h) (Or.inl ⟨by rfl, ?ym5⟩) (by assumption) ?rm5; (case ym5 => intro w hSw; go_simp <;> with_reducible rfl); simp only [Act.put, List.setIfInBounds_toArray, List.set_cons_zero, List.set_cons_succ])
                        | (refine wpAnyH_take (i := 5) (oi := { dst := _, op := _, type := _, pos := _, after := _, guard := _ }) (v := undef) rfl (by kernel_rfl) (by kernel_rfl) (by kernel_rfl) (fun _ _ _ h => leaves_put 4 rfl (by decide) h) (Or.inr ⟨by rfl, rfl⟩) (by assumption) ?rm5; simp only [Act.put, List.setIfInBounds_toArray, List.set_cons_zero, List.set_cons_succ])
                      first
                        | (refine wpAnyH_take (i := 6) (oi := { dst := _, op := _, type := _, pos := _, after := _, guard := _ }) (v := ?vm6) rfl (by kernel_rfl) (by kernel_rfl) (by kernel_rfl) (fun _ _ _ h => leaves_put 4 rfl (by decide) h) (Or.inl ⟨by rfl, ?ym6⟩) (by assumption) ?rm6; (case ym6 => intro w hSw; go_simp <;> with_reducible rfl); simp only [Act.put, List.setIfInBounds_toArray, List.set_cons_zero, List.set_cons_succ])
                        | (refine wpAnyH_take (i := 6) (oi := { dst := _, op := _, type := _, pos := _, after := _, guard := _ }) (v := undef) rfl (by kernel_rfl) (by kernel_rfl) (by kernel_rfl) (fun _ _ _ h => leaves_put 4 rfl (by decide) h) (Or.inr ⟨by rfl, rfl⟩) (by assumption) ?rm6; simp only [Act.put, List.setIfInBounds_toArray, List.set_cons_zero, List.set_cons_succ])
                      first
                        | (refine wpAnyH_take (i := 7) (oi := { dst := _, op := _, type := _, pos := _, after := _, guard := _ }) (v := ?vm7) rfl (by kernel_rfl) (by kernel_rfl) (by kernel_rfl) (fun _ _ _ h => leaves_put 4 rfl (by decide) h) (Or.inl ⟨by rfl, ?ym7⟩) (by assumption) ?rm7; (case ym7 => intro w hSw; go_simp <;> with_reducible rfl); simp only [Act.put, List.setIfInBounds_toArray, List.set_cons_zero, List.set_cons_succ])
                        | (refine wpAnyH_take (i := 7) (oi := { dst := _, op := _, type := _, pos := _, after := _, guard := _ }) (v := undef) rfl (by kernel_rfl) (by kernel_rfl) (by kernel_rfl) (fun _ _ _ h => leaves_put 4 rfl (by decide) h) (Or.inr ⟨by rfl, rfl⟩) (by assumption) ?rm7; simp only [Act.put, List.setIfInBounds_toArray, List.set_cons_zero, List.set_cons_succ])
                      first
                        | (refine wpAnyH_take (i := 8) (oi := { dst := _, op := _, type := _, pos := _, after := _, guard := _ }) (v := ?vm8) rfl (by kernel_rfl) (by kernel_rfl) (by kernel_rfl) (fun _ _ _ h => leaves_put 4 rfl (by decide) h) (Or.inl ⟨by rfl, ?ym8⟩) (by assumption) ?rm8; (case ym8 => intro w hSw; go_simp <;> with_reducible rfl); simp only [Act.put, List.setIfInBounds_toArray, List.set_cons_zero, List.set_cons_succ])
                        | (refine wpAnyH_take (i := 8) (oi := { dst := _, op := _, type := _, pos := _, after := _, guard := _ }) (v := undef) rfl (by kernel_rfl) (by kernel_rfl) (by kernel_rfl) (fun _ _ _ h => leaves_put 4 rfl (by decide) h) (Or.inr ⟨by rfl, rfl⟩) (by assumption) ?rm8; simp only [Act.put, List.setIfInBounds_toArray, List.set_cons_zero, List.set_cons_succ])
                      first
                        | (refine wpAnyH_take (i := 9) (oi := { dst := _, op := _, type := _, pos := _, after := _, guard := _ }) (v := ?vm9) rfl (by kernel_rfl) (by kernel_rfl) (by kernel_rfl) (fun _ _ _ h => leaves_put 4 rfl (by decide) h) (Or.inl ⟨by rfl, ?ym9⟩) (by assumption) ?rm9; (case ym9 => intro w hSw; go_simp <;> with_reducible rfl); simp only [Act.put, List.setIfInBounds_toArray, List.set_cons_zero, List.set_cons_succ])
                        | (refine wpAnyH_take (i := 9) (oi := { dst := _, op := _, type := _, pos := _, after := _, guard := _ }) (v := undef) rfl (by kernel_rfl) (by kernel_rfl) (by kernel_rfl) (fun _ _ _ h => leaves_put 4 rfl (by decide) h) (Or.inr ⟨by rfl, rfl⟩) (by assumption) ?rm9; simp only [Act.put, List.setIfInBounds_toArray, List.set_cons_zero, List.set_cons_succ])
                      first
                        | (refine wpAnyH_take (i := 10) (oi := { dst := _, op := _, type := _, pos := _, after := _, guard := _ }) (v := ?vm10) rfl (by kernel_rfl) (by kernel_rfl) (by kernel_rfl) (fun _ _ _ h => leaves_put 4 rfl (by decide) h) (Or.inl ⟨by rfl, ?ym10⟩) (by assumption) ?rm10; (case ym10 => intro w hSw; go_simp <;> with_reducible rfl); simp only [Act.put, List.setIfInBounds_toArray, List.set_cons_zero, List.set_cons_succ])
                        | (refine wpAnyH_take (i := 10) (oi := { dst := _, op := _, type := _, pos := _, after := _, guard := _ }) (v := undef) rfl (by kernel_rfl) (by kernel_rfl) (by kernel_rfl) (fun _ _ _ h => leaves_put 4 rfl (by decide) h) (Or.inr ⟨by rfl, rfl⟩) (by assumption) ?rm10; simp only [Act.put, List.setIfInBounds_toArray, List.set_cons_zero, List.set_cons_succ])
                      first
                        | (refine wpAnyH_take (i := 11) (oi := { dst := _, op := _, type := _, pos := _, after := _, guard := _ }) (v := ?vm11) rfl (by kernel_rfl) (by kernel_rfl) (by kernel_rfl) (fun _ _ _ h => leaves_put 4 rfl (by decide) h) (Or.inl ⟨by rfl, ?ym11⟩) (by assumption) ?rm11; (case ym11 => intro w hSw; go_simp <;> with_reducible rfl); simp only [Act.put, List.setIfInBounds_toArray, List.set_cons_zero, List.set_cons_succ])
                        | (refine wpAnyH_take (i := 11) (oi := { dst := _, op := _, type := _, pos := _, after := _, guard := _ }) (v := undef) rfl (by kernel_rfl) (by kernel_rfl) (by kernel_rfl) (fun _ _ _ h => leaves_put 4 rfl (by decide) h) (Or.inr ⟨by rfl, rfl⟩) (by assumption) ?rm11; simp only [Act.put, List.setIfInBounds_toArray, List.set_cons_zero, List.set_cons_succ])
                      first
                        | (refine wpAnyH_take (i := 12) (oi := { dst := _, op := _, type := _, pos := _, after := _, guard := _ }) (v := ?vm12) rfl (by kernel_rfl) (by kernel_rfl) (by kernel_rfl) (fun _ _ _ h => leaves_put 4 rfl (by decide) h) (Or.inl ⟨by rfl, ?ym12⟩) (by assumption) ?rm12; (case ym12 => intro w hSw; go_simp <;> with_reducible rfl); simp only [Act.put, List.setIfInBounds_toArray, List.set_cons_zero, List.set_cons_succ])
                        | (refine wpAnyH_take (i := 12) (oi := { dst := _, op := _, type := _, pos := _, after := _, guard := _ }) (v := undef) rfl (by kernel_rfl) (by kernel_rfl) (by kernel_rfl) (fun _ _ _ h => leaves_put 4 rfl (by decide) h) (Or.inr ⟨by rfl, rfl⟩) (by assumption) ?rm12; simp only [Act.put, List.setIfInBounds_toArray, List.set_cons_zero, List.set_cons_succ])
                      first
                        | (refine wpAnyH_take (i := 13) (oi := { dst := _, op := _, type := _, pos := _, after := _, guard := _ }) (v := ?vm13) rfl (by kernel_rfl) (by kernel_rfl) (by kernel_rfl) (fun _ _ _ h => leaves_put 4 rfl (by decide) h) (Or.inl ⟨by rfl, ?ym13⟩) (by assumption) ?rm13; (case ym13 => intro w hSw; go_simp <;> with_reducible rfl); simp only [Act.put, List.setIfInBounds_toArray, List.set_cons_zero, List.set_cons_succ])
                        | (refine wpAnyH_take (i := 13) (oi := { dst := _, op := _, type := _, pos := _, after := _, guard := _ }) (v := undef) rfl (by kernel_rfl) (by kernel_rfl) (by kernel_rfl) (fun _ _ _ h => leaves_put 4 rfl (by decide) h) (Or.inr ⟨by rfl, rfl⟩) (by assumption) ?rm13; simp only [Act.put, List.setIfInBounds_toArray, List.set_cons_zero, List.set_cons_succ])
                      first
                        | (refine wpAnyH_take (i := 14) (oi := { dst := _, op := _, type := _, pos := _, after := _, guard := _ }) (v := ?vm14) rfl (by kernel_rfl) (by kernel_rfl) (by kernel_rfl) (fun _ _ _ h => leaves_put 4 rfl (by decide) h) (Or.inl ⟨by rfl, ?ym14⟩) (by assumption) ?rm14; (case ym14 => intro w hSw; go_simp <;> with_reducible rfl); simp only [Act.put, List.setIfInBounds_toArray, List.set_cons_zero, List.set_cons_succ])
                        | (refine wpAnyH_take (i := 14) (oi := { dst := _, op := _, type := _, pos := _, after := _, guard := _ }) (v := undef) rfl (by kernel_rfl) (by kernel_rfl) (by kernel_rfl) (fun _ _ _ h => leaves_put 4 rfl (by decide) h) (Or.inr ⟨by rfl, rfl⟩) (by assumption) ?rm14; simp only [Act.put, List.setIfInBounds_toArray, List.set_cons_zero, List.set_cons_succ])
                      first
                        | (refine wpAnyH_take (i := 15) (oi := { dst := _, op := _, type := _, pos := _, after := _, guard := _ }) (v := ?vm15) rfl (by kernel_rfl) (by kernel_rfl) (by kernel_rfl) (fun _ _ _ h => leaves_put 4 rfl (by decide) h) (Or.inl ⟨by rfl, ?ym15⟩) (by assumption) ?rm15; (case ym15 => intro w hSw; go_simp <;> with_reducible rfl); simp only [Act.put, List.setIfInBounds_toArray, List.set_cons_zero, List.set_cons_succ])
                        | (refine wpAnyH_take (i := 15) (oi := { dst := _, op := _, type := _, pos := _, after := _, guard := _ }) (v := undef) rfl (by kernel_rfl) (by kernel_rfl) (by kernel_rfl) (fun _ _ _ h => leaves_put 4 rfl (by decide) h) (Or.inr ⟨by rfl, rfl⟩) (by assumption) ?rm15; simp only [Act.put, List.setIfInBounds_toArray, List.set_cons_zero, List.set_cons_succ])
                      first
                        | (refine wpAnyH_take (i := 16) (oi := { dst := _, op := _, type := _, pos := _, after := _, guard := _ }) (v := ?vm16) rfl (by kernel_rfl) (by kernel_rfl) (by kernel_rfl) (fun _ _ _ h => leaves_put 4 rfl (by decide) h) (Or.inl ⟨by rfl, ?ym16⟩) (by assumption) ?rm16; (case ym16 => intro w hSw; go_simp <;> with_reducible rfl); simp only [Act.put, List.setIfInBounds_toArray, List.set_cons_zero, List.set_cons_succ])
                        | (refine wpAnyH_take (i := 16) (oi := { dst := _, op := _, type := _, pos := _, after := _, guard := _ }) (v := undef) rfl (by kernel_rfl) (by kernel_rfl) (by kernel_rfl) (fun _ _ _ h => leaves_put 4 rfl (by decide) h) (Or.inr ⟨by rfl, rfl⟩) (by assumption) ?rm16; simp only [Act.put, List.setIfInBounds_toArray, List.set_cons_zero, List.set_cons_succ])
                      first
                        | (refine wpAnyH_take (i := 17) (oi := { dst := _, op := _, type := _, pos := _, after := _, guard := _ }) (v := ?vm17) rfl (by kernel_rfl) (by kernel_rfl) (by kernel_rfl) (fun _ _ _ h => leaves_put 4 rfl (by decide) h) (Or.inl ⟨by rfl, ?ym17⟩) (by assumption) ?rm17; (case ym17 => intro w hSw; go_simp <;> with_reducible rfl); simp only [Act.put, List.setIfInBounds_toArray, List.set_cons_zero, List.set_cons_succ])
                        | (refine wpAnyH_take (i := 17) (oi := { dst := _, op := _, type := _, pos := _, after := _, guard := _ }) (v := undef) rfl (by kernel_rfl) (by kernel_rfl) (by kernel_rfl) (fun _ _ _ h => leaves_put 4 rfl (by decide) h) (Or.inr ⟨by rfl, rfl⟩) (by assumption) ?rm17; simp only [Act.put, List.setIfInBounds_toArray, List.set_cons_zero, List.set_cons_succ])
                      first
                        | (refine wpAnyH_take (i := 18) (oi := { dst := _, op := _, type := _, pos := _, after := _, guard := _ }) (v := ?vm18) rfl (by kernel_rfl) (by kernel_rfl) (by kernel_rfl) (fun _ _ _ h => leaves_put 4 rfl (by decide) h) (Or.inl ⟨by rfl, ?ym18⟩) (by assumption) ?rm18; (case ym18 => intro w hSw; go_simp <;> with_reducible rfl); simp only [Act.put, List.setIfInBounds_toArray, List.set_cons_zero, List.set_cons_succ])
                        | (refine wpAnyH_take (i := 18) (oi := { dst := _, op := _, type := _, pos := _, after := _, guard := _ }) (v := undef) rfl (by kernel_rfl) (by kernel_rfl) (by kernel_rfl) (fun _ _ _ h => leaves_put 4 rfl (by decide) h) (Or.inr ⟨by rfl, rfl⟩) (by assumption) ?rm18; simp only [Act.put, List.setIfInBounds_toArray, List.set_cons_zero, List.set_cons_succ])
                      refine wpAnyH_ready (rs := [19]) (by kernel_rfl) (by simp) ?_
                      refine AllReadyH.cons (o := { dst := _, op := _, type := _, pos := _, after := _, guard := _ }) rfl (fun K hK => ?_) AllReadyH.nil
                      go_simp
                      refine (hAm.out x0 M0).mono ?_
                      rintro e x1 ⟨rfl, hc1⟩
                      have M1 := M0.keep hc1
                      refine hK.out _ _ hc1 (fun _ => ?_)
                      clear hK K
                      refine sharpen (S' := fun w' => Below x1.heap.size x1 w') (fun w' h => Below.call hc1 h) _ _ _ _ ?_
                      clear e0 e1 e2 e3 e4 e5 e6 e7 z0
                      have e0 := fun w' (h : Below x1.heap.size x1 w') => (M1.keep h).rule.facts.1
                      have e1 := fun w' (h : Below x1.heap.size x1 w') => (M1.keep h).rule.facts.2.1
                      have e2 := fun w' (h : Below x1.heap.size x1 w') => (M1.keep h).rule.facts.2.2
                      have e3 := fun w' (h : Below x1.heap.size x1 w') => (M1.keep h).box.cell
                      have e4 := fun w' (h : Below x1.heap.size x1 w') => (M1.keep h).ca
                      have e5 := fun w' (h : Below x1.heap.size x1 w') => (M1.keep h).cg
                      have e6 := fun w' (h : Below x1.heap.size x1 w') => (M1.keep h).c4
                      have e7 := fun w' (h : Below x1.heap.size x1 w') => (M1.keep h).step.facts.2.2.2.2.2
                      have z1 : Below x1.heap.size x1 x1 := Below.refl _ _
                      first
                        | (refine wpAnyH_take (i := 20) (oi := { dst := _, op := _, type := _, pos := _, after := _, guard := _ }) (v := ?vm20) rfl (by kernel_rfl) (by kernel_rfl) (by kernel_rfl) (fun _ _ _ h => leaves_put 4 rfl (by decide) h) (Or.inl ⟨by rfl, ?ym20⟩) (by assumption) ?rm20; (case ym20 => intro w hSw; go_simp <;> with_reducible rfl); simp only [Act.put, List.setIfInBounds_toArray, List.set_cons_zero, List.set_cons_succ])
                        | (refine wpAnyH_take (i := 20) (oi := { dst := _, op := _, type := _, pos := _, after := _, guard := _ }) (v := undef) rfl (by kernel_rfl) (by kernel_rfl) (by kernel_rfl) (fun _ _ _ h => leaves_put 4 rfl (by decide) h) (Or.inr ⟨by rfl, rfl⟩) (by assumption) ?rm20; simp only [Act.put, List.setIfInBounds_toArray, List.set_cons_zero, List.set_cons_succ])
                      first
                        | (refine wpAnyH_take (i := 21) (oi := { dst := _, op := _, type := _, pos := _, after := _, guard := _ }) (v := ?vm21) rfl (by kernel_rfl) (by kernel_rfl) (by kernel_rfl) (fun _ _ _ h => leaves_put 4 rfl (by decide) h) (Or.inl ⟨by rfl, ?ym21⟩) (by assumption) ?rm21; (case ym21 => intro w hSw; go_simp <;> with_reducible rfl); simp only [Act.put, List.setIfInBounds_toArray, List.set_cons_zero, List.set_cons_succ])
                        | (refine wpAnyH_take (i := 21) (oi := { dst := _, op := _, type := _, pos := _, after := _, guard := _ }) (v := undef) rfl (by kernel_rfl) (by kernel_rfl) (by kernel_rfl) (fun _ _ _ h => leaves_put 4 rfl (by decide) h) (Or.inr ⟨by rfl, rfl⟩) (by assumption) ?rm21; simp only [Act.put, List.setIfInBounds_toArray, List.set_cons_zero, List.set_cons_succ])
                      refine wpAnyH_done (by kernel_rfl) ?_ _
                      clear e0 e1 e2 e3 e4 e5 e6 e7 z1
                      go_wp2_with fail
                      exact ⟨⟨i3 + 1, by simp, by omega, M1.ti, M1.step, M1.box, M1.row⟩, by simp [intOf]; omega⟩
                    · obtain rfl : i3 = rules.length := by omega
                      clear hrow B
                      obtain ⟨x0, x1, x2, x3, x4, x5⟩ := X.facts
                      rw [hx] at x4
                      go_wp2_with fail
                      refine (look_any b v _ L' s.l s.now s.now (by omega) (by omega) hfa hl0'.1 (Int.le_refl _) hnow wr T.watch (hFw.keep (hN ▸ T.bel)) hsv).mono ?_
                      rintro e W9 ⟨va9, rfl, hW9, hA9, hO9, hB9⟩
                      rw [← hL', look_again, hL'] at hW9
                      rw [← hL', rings_again] at hA9
                      obtain ⟨va8, ac9, rfl, -, -⟩ := ownN_form hA9
                      have T9 := T.look rfl hW9 hO9 hB9
                      have hrule' : L'.map (·.rule) = rules := by
                        rw [← hL', ← hrule]; simp [Fi.look, look1_rule, Function.comp_def]
                      simp only [List.length_nil]
                      clear hW9 hA9 hO9 hB9 T X x0 x1 x2 x3 x4 x5
                      go_wp2_with fail
                      refine ⟨?_, by simp [intOf]; omega⟩
                      (repeat apply Exists.intro)
                      refine ⟨?_, rfl⟩
                      exact ⟨k + 1, L', s.now, by simp, by omega, hrule', T9⟩
          
        · have hlk : ¬ ((k : Int) < (l.length : Int)) := by omega
          have cN := T.res.cell
          have fN := T.res.froz
          go_wp2_with fail
          refine leaves_all (w0 := w) (N := N) ?_ ds _ ?_ ?_ ?_
          · intro W hn' hb'
            have m6 := hn'.cell
            refine ⟨.bool true, ?_, rfl, hb'⟩
            simp [results, Try.results6, go_sem, m6]
          · refine T.marks.off (Off.setCell (Fr := fun k => k = N) (Off.refl _ _) (a := ⟨N, 0, none⟩) rfl _) (fun k hk => ?_)
            subst hk
            have := T.res
            unfold NumAt at this
            rw [this]; simp
          · exact T.res.set _
          · exact T.bel.setCell (p := ⟨N, 0, none⟩) (Nat.le_refl _) _
end Go.Proofs.Ytaepkmjlkenenaa
