/- WatchPlays: the walk. -/
import Derived.Test.YtaepkmjlkenenaaF29
namespace Go.Proofs.Ytaepkmjlkenenaa
open Go.RowKit Go.Shelf
attribute [local go_sem] Oper.semAt_some

theorem Try.info2 : (Try.prog.info? 2).map (fun i => (i.zero, i.size, i.bytes)) = some (some (.int .i64 0), 1, 8) := by kernel_rfl
/-- what the law expects of New, with the first k rules gone over -/
def wantK (l : List Fi.Rule) (k : Nat) : Int := if (l.take k).any bad = true then 2 else 0
theorem wantK_succ (l : List Fi.Rule) (k : Nat) (h : k < l.length) : wantK l (k + 1) = if Fi.may l[k] = true then wantK l k else 2 := by
  unfold wantK
  rw [List.take_succ_eq_append_getElem h, List.any_append]
  simp only [List.any_cons, List.any_nil, Bool.or_false, bad]
  cases (l.take k).any bad <;> cases Fi.may l[k] <;> rfl
theorem newE_want (l : List Fi.Rule) : newE l = if wantK l l.length = 0 then (if 64 < l.length then 6 else 0) else wantK l l.length := by
  unfold newE wantK
  rw [List.take_length]
  split <;> rfl
theorem rowMono {W : World} {B B' : Nat} {E : TypeId} {sz : Nat} {v : Value} {n : Nat} {us : List Value} (h : W.ownsRow B E sz v n us) (hB : B' ≤ B) : W.ownsRow B' E sz v n us :=
  ⟨h.1, h.2.imp id (fun ⟨g, cap, cur, a, b, c⟩ => ⟨g, cap, cur, a, Nat.le_trans hB b, c⟩)⟩
def fillK (n k : Nat) : List Int := List.replicate k (-1) ++ List.replicate (n - k) 0
theorem fillK_len (n k : Nat) (h : k ≤ n) : (fillK n k).length = n := by simp [fillK]; omega
theorem fillK_get (n k t : Nat) (h : k ≤ n) (ht : t < n) : (fillK n k)[t]? = some (if t < k then -1 else 0) := by
  unfold fillK
  rw [List.getElem?_append]
  by_cases hk : t < k
  · rw [if_pos (by simpa using hk), if_pos hk, List.getElem?_replicate, if_pos hk]
  · rw [if_neg (by simpa using hk), if_neg hk, List.getElem?_replicate, if_pos (by simp; omega)]
theorem fillK_step (n k : Nat) (h : k < n) : fillK n (k + 1) = (fillK n k).set k (-1) := by
  apply List.ext_getElem?
  intro t
  by_cases ht : t < n
  · rw [fillK_get n (k + 1) t (by omega) ht, List.getElem?_set]
    by_cases he : k = t
    · subst he
      rw [if_pos rfl, if_pos (by omega), if_pos (by rw [fillK_len n k (by omega)]; omega)]
    · rw [if_neg he, fillK_get n k t (by omega) ht]
      by_cases h1 : t < k
      · rw [if_pos (by omega), if_pos h1]
      · rw [if_neg (by omega), if_neg h1]
  · rw [List.getElem?_eq_none (by rw [fillK_len n _ (by omega)]; omega), List.getElem?_eq_none (by rw [List.length_set, fillK_len n _ (by omega)]; omega)]
theorem fillK_all (l : List Fi.Rule) : fillK l.length l.length = sinceL (l.map st0) := by
  unfold fillK sinceL
  rw [Nat.sub_self, List.map_map]
  have : (sinceOf ∘ st0) = fun _ => (-1 : Int) := by funext r; exact sinceOf_st0 r
  rw [this, List.map_const']
  simp
theorem tot_mem' : ∀ {l : List Stp} {s : Stp}, s ∈ l → s.l.length ≤ tot l
  | x :: l, s, h => by
    have e : tot (x :: l) = 1 + x.l.length + tot l := by simp [tot]
    rw [e]
    rcases List.mem_cons.1 h with rfl | h
    · omega
    · have := tot_mem' h; omega
theorem stpOwn {w : World} {s : Stp} (h : StpOk w s) : s.l ≠ [] → ∀ k, s.lv.ownBlock = some k → k < w.heap.size := by
  intro hne k hk
  obtain ⟨ao, cap, he, -, -, -⟩ := h.1.form
  have h1 := h.1
  rw [he] at h1 hk
  obtain ⟨b, off, rfl, hb, -⟩ := Row.at fireC_len (by omega) h1 (List.length_pos_iff.2 hne)
  obtain rfl : b = k := by simpa [Value.ownBlock] using hk
  exact hb
/-- what holds between the rounds over what is on: n is in block bn, before in block bb -/
structure RI (N : Nat) (w w8 : World) (bn bb : Nat) (left : Int) (L : List Fi.St) (k : Nat) (W : World) : Prop where
  off : Off (fun j => j = bn ∨ j = bb) w8 W
  bel : Below N w W
  num : NumAt W bn 3 (.int .i64 k)
  go : (k : Int) < left ∨ k = 0
  at' : ∃ (i : Nat) (p : Int), i ≤ L.length ∧ (onsL L).drop k = onsFrom i (L.drop i) ∧ NumAt W bb 3 (.int .i64 p) ∧ p < i
structure RX (N : Nat) (w w8 : World) (bn bb : Nat) (left : Int) (L : List Fi.St) (k : Nat) (W : World) : Prop where
  off : Off (fun j => j = bn ∨ j = bb) w8 W
  bel : Below N w W
  num : NumAt W bn 3 (.int .i64 k)
  full : (k : Int) = max left 1
  le : k ≤ (onsL L).length
theorem RI.keep {N : Nat} {w w8 : World} {bn bb : Nat} {left : Int} {L : List Fi.St} {k : Nat} {A B : World} (h : RI N w w8 bn bb left L k A) (hb : Below w8.heap.size A B) (h1 : N ≤ w8.heap.size) (h2 : bn < w8.heap.size) (h3 : bb < w8.heap.size) : RI N w w8 bn bb left L k B := by
  obtain ⟨i, p, e1, e2, e3, e4⟩ := h.at'
  exact ⟨h.off.andBelow hb (Nat.le_refl _), h.bel.trans (hb.mono h1), h.num.keepAt hb h2, h.go, i, p, e1, e2, e3.keepAt hb h3, e4⟩
theorem RX.keep {N : Nat} {w w8 : World} {bn bb : Nat} {left : Int} {L : List Fi.St} {k : Nat} {A B : World} (h : RX N w w8 bn bb left L k A) (hb : Below w8.heap.size A B) (h1 : N ≤ w8.heap.size) (h2 : bn < w8.heap.size) : RX N w w8 bn bb left L k B :=
  ⟨h.off.andBelow hb (Nat.le_refl _), h.bel.trans (hb.mono h1), h.num.keepAt hb h2, h.full, h.le⟩
theorem OffT.rule {Ts : List TypeId} {W W' : World} (h : OffT Ts W W') {t : TypeId} {b : Nat} {r : Fi.Rule} (hR : RuleAt W t b r) (ht : t ∉ Ts) : RuleAt W' t b r := by
  unfold RuleAt; rw [Off.same h b hR.lt (notT ⟨_, _, hR⟩ ht)]; exact hR
theorem ownRule {W : World} {B g n cap : Nat} {rs : List Fi.Rule} {m : Nat} {r : Fi.Rule} (h : W.ownsRow B 34 3 (.slice (some ⟨g, 0, none⟩) n cap) rs.length (rs.flatMap ruC)) (hr : rs[m]? = some r) (hn : rs.length = n) : W.cell? ⟨g, m * 3, none⟩ = some (.int .u8 r.kind) ∧ W.cell? ⟨g, m * 3 + 1, none⟩ = some (.int .u64 r.job) ∧ W.cell? ⟨g, m * 3 + 2, none⟩ = some (.int .i64 r.n) := by
  subst hn
  exact ⟨(ownN_cell h (flat_get ruC 3 ruC_len rs m r 0 _ hr rfl)).1, (ownN_cell h (flat_get ruC 3 ruC_len rs m r 1 _ hr rfl)).1, (ownN_cell h (flat_get ruC 3 ruC_len rs m r 2 _ hr rfl)).1⟩
theorem wrapNat (m : Nat) (h : (m : Int) ≤ 63) : IntKind.i64.wrap (m : Int) = (m : Int) := by
  rw [show IntKind.i64.wrap (m : Int) = ((m : Int) + 9223372036854775808) % 18446744073709551616 - 9223372036854775808 from IntKind.wrap_i64 _]; omega
theorem ruleCells {W : World} {b : Nat} {r : Fi.Rule} (h : RuleAt W 34 b r) : ∀ j u, (ruC r)[j]? = some u → W.cell? ((⟨b, 0, none⟩ : Addr).add j) = some u := by
  intro j u hj
  obtain ⟨c0, c1, c2⟩ := h.facts
  rw [Addr.add_lit]
  match j, hj with
  | 0, hj => simp [ruC] at hj; subst hj; exact c0
  | 1, hj => simp [ruC] at hj; subst hj; exact c1
  | 2, hj => simp [ruC] at hj; subst hj; exact c2
  | n + 3, hj => simp [ruC] at hj
theorem numCells {W : World} {b : Nat} {T : TypeId} {v : Value} (h : NumAt W b T v) : ∀ j u, [v][j]? = some u → W.cell? ((⟨b, 0, none⟩ : Addr).add j) = some u := by
  intro j u hj
  rw [Addr.add_lit]
  match j, hj with
  | 0, hj => simp at hj; subst hj; exact h.cell
  | n + 1, hj => simp at hj
theorem nlen {l : List Fi.Rule} (h : newE l = 0) : l.length ≤ 64 := by
  unfold newE at h
  split at h
  · cases h
  · split at h
    · cases h
    · omega
set_option maxRecDepth 100000 in
set_option maxHeartbeats 8000000 in
theorem watchPlays_any (rules : List Fi.Rule) (l : List Stp) (vr vl : Value) (left : Int) (w : World) (hr : Rus w vr rules) (hl : Steps w vl l) :
    Calls Try.prog 8 #[vr, vl, .int .i64 left] w fun e w' => e = .returned (.bool true) ∧ Below w.heap.size w w' := by
  obtain ⟨ro, rcap, rfl, g1, g2, g3⟩ := hr.form
  obtain ⟨ao, cap, rfl, h1, h2, h3⟩ := hl.1.form
  refine calls_marks Try.func8 rfl ?_
  simp only [Try.ntmps8, List.size_toArray, List.length_cons, List.length_nil, Nat.reduceAdd, Nat.reduceSub, Array.replicate_succ, Array.replicate_zero, List.push_toArray, List.append_toArray, List.nil_append, List.cons_append]
  have k0 := Below.al (Below.refl w.heap.size w) (.cells #[.int .i64 left] 3)
  have k1 := Below.al (Below.refl _ (w.alloc (.cells #[.int .i64 left] 3))) (.cells #[.bool false] 4)
  have hb0 := Below.call k0 k1
  have F0 := (NumAt.mk w 3 (.int .i64 left) w.heap.size rfl).keep k1
  have R0 := NumAt.mk (w.alloc (.cells #[.int .i64 left] 3)) 4 (.bool false) (w.heap.size + 1) (by simp)
  obtain ⟨N, hN⟩ : ∃ N, w.heap.size = N := ⟨_, rfl⟩
  go_wp2_with fail
  clear k0 k1
  rw [hN] at hb0 F0 R0
  generalize (w.alloc (.cells #[.int .i64 left] 3)).alloc (.cells #[.bool false] 4) = W0 at *
  refine (known_any _).mono ?_
  rintro e w1 ⟨rfl, hc⟩
  have hz := F0.lt
  replace F0 := F0.keep hc
  replace R0 := R0.keep hc
  replace hb0 := hb0.trans (hc.mono (Nat.le_of_lt hz))
  clear hc hz
  go_wp2_with fail
  refine (great_any rules l _ _ w1 (Row.keep hr (hN ▸ hb0)) (hl.keep (hN ▸ hb0))).mono ?_
  rintro e w2 ⟨q, rfl, hq, hc⟩
  have hz := F0.lt
  replace F0 := F0.keep hc
  replace R0 := R0.keep hc
  replace hb0 := hb0.trans (hc.mono (Nat.le_of_lt hz))
  clear hc hz
  have cR := R0.cell
  have fR := R0.froz
  cases q with
  | true =>
    go_wp2_with fail
    have m6 := (R0.set (.bool true)).cell
    refine ⟨.bool true, ?_, rfl, hN ▸ hb0.setCell (p := ⟨N + 1, 0, none⟩) (by show N ≤ N + 1; omega) _⟩
    simp [results, Try.results8, go_sem, m6]
  | false =>
    obtain ⟨htot, hr100⟩ := hq rfl
    clear hq
    go_wp2_with fail
    refine (new_any rules _ (by omega) w2 (Row.keep hr (hN ▸ hb0))).mono ?_
    rintro e w3 hnw
    obtain ⟨pv, rfl, hpv, hc⟩ : ∃ pv, e = .returned (.tuple #[pv, .int .i64 (newE rules)]) ∧ ((newE rules ≠ 0 ∧ pv = .pointer none) ∨ (newE rules = 0 ∧ ∃ b v, pv = .pointer (some ⟨b, 0, none⟩) ∧ w2.heap.size ≤ b ∧ WV w3 b v (rules.map st0) (-1))) ∧ Below w2.heap.size w2 w3 := by
      rcases hnw with ⟨h1, h2, h3⟩ | ⟨h1, b, v, h2, h3, h4, h5⟩
      · exact ⟨_, h2, .inl ⟨h1, rfl⟩, h3⟩
      · exact ⟨_, by rw [h1]; exact h2, .inr ⟨h1, b, v, rfl, h3, h4⟩, h5⟩
    clear hnw
    have hz := F0.lt
    have hwx := hz
    replace F0 := F0.keep hc
    replace R0 := R0.keep hc
    replace hb0 := hb0.trans (hc.mono (Nat.le_of_lt hz))
    clear hc cR fR
    have HP := Lib.hid hpv
    clear hpv
    obtain ⟨E, hE⟩ : ∃ E, newE rules = E := ⟨_, rfl⟩
    rw [hE] at HP ⊢
    go_wp2_with fail
    go_loopw [9, 49] (fun ww ii W => ∃ k : Nat, ii = .int .i64 k ∧ k ≤ rules.length ∧ ww = .int .i64 (wantK rules k) ∧ Below w3.heap.size w3 W) (fun _ ii _ => rules.length - (intOf ii).toNat)
    case atStart => exact ⟨0, rfl, Nat.zero_le _, by simp [wantK], Below.refl _ _⟩
    case round =>
      obtain ⟨k, rfl, hk, rfl, hbk⟩ := hrel
      have hb3 := hb0.trans (hbk.mono (Nat.le_of_lt F0.lt))
      by_cases hlt : k < rules.length
      · have hlt' : (k : Int) < (rules.length : Int) := by omega
        obtain ⟨br, offr, rfl, hbr, hca⟩ := Rus.at (Row.keep hr (hN ▸ hb3)) (by omega)
        obtain ⟨c0, c1, c2⟩ := hca k hlt
        have hs := wantK_succ rules k hlt
        clear hca
        generalize rules[k] = r at *
        have R := RuleAt.new wr 34 r wr.heap.size rfl
        have hal := Below.al (Below.refl wr.heap.size wr) (.cells #[.int .u8 r.kind, .int .u64 r.job, .int .i64 r.n] 34)
        have hm := refRuleMay_any r
        unfold ruleV at hm
        have hal2 := Below.call hbk hal
        cases hq : Fi.may r with
        | true =>
          rw [hq] at hm hs
          rw [if_pos rfl] at hs
          have HS := Lib.hid hs
          have HM := Lib.hid hm
          clear hs hm hq
          go_wp2_with fail
          refine (HM.out _).mono ?_
          rintro e w4 ⟨rfl, hc⟩
          go_wp2_with fail
          exact ⟨⟨k + 1, by simp, by omega, by rw [HS.out], Below.call hal2 hc⟩, by simp [intOf]; omega⟩
        | false =>
          rw [hq] at hm hs
          rw [if_neg (by simp)] at hs
          have HS := Lib.hid hs
          have HM := Lib.hid hm
          clear hs hm hq
          go_wp2_with fail
          refine (HM.out _).mono ?_
          rintro e w4 ⟨rfl, hc⟩
          go_wp2_with fail
          exact ⟨⟨k + 1, by simp, by omega, by rw [HS.out], Below.call hal2 hc⟩, by simp [intOf]; omega⟩
      · obtain rfl : k = rules.length := by omega
        replace F0 := F0.keep hbk
        replace R0 := R0.keep hbk
        clear hb0
        have hb0 := hb3
        have cR := R0.cell
        have fR := R0.froz
        have hEw := newE_want rules
        rw [hE] at hEw
        generalize wantK rules rules.length = Wt at *
        by_cases hW0 : Wt = 0
        · subst hW0
          rw [if_pos rfl] at hEw
          by_cases h64 : 64 < rules.length
          · rw [if_pos h64] at hEw
            subst hEw
            have h64' : (64 : Int) < (rules.length : Int) := by omega
            obtain ⟨-, rfl⟩ | ⟨h0, -⟩ := HP.out
            · go_wp2_with fail
              have m6 := (R0.set (.bool true)).cell
              refine ⟨.bool true, ?_, rfl, hN ▸ hb0.setCell (p := ⟨N + 1, 0, none⟩) (by show N ≤ N + 1; omega) _⟩
              simp [results, Try.results8, go_sem, m6]
            · cases h0
          · rw [if_neg h64] at hEw
            subst hEw
            have h64' : ¬ ((64 : Int) < (rules.length : Int)) := by omega
            have h64n : rules.length ≤ 64 := by omega
            obtain ⟨h0, -⟩ | ⟨-, b, v, rfl, hbb, hWV⟩ := HP.out
            · exact absurd rfl h0
            · replace hWV := hWV.keep hbk
              have hbN : N < b := by omega
              have hvN : ∀ k, v.ownBlock = some k → N < k := fun k hk => by have := (World.ownsRow.lt hWV.own k hk).1; omega
              clear HP hbk hb3 hk hlt hz hwx hbb h64 hE
              go_wp2_with fail
              refine (cloneRu_any _ rules (by omega) wr (Row.keep hr (hN ▸ hb0))).mono ?_
              rintro e w5 ⟨ov, rfl, hOv, hc⟩
              have hz := F0.lt
              have hz1 := R0.lt
              replace F0 := F0.keep hc
              replace R0 := R0.keep hc
              replace hWV := hWV.keep hc
              replace hb0 := hb0.trans (hc.mono (Nat.le_of_lt hz))
              replace hOv := rowMono hOv (B' := N + 2) (by omega)
              obtain ⟨oo, oc, rfl, -, -⟩ := ownN_form hOv
              have hN2 : N + 2 ≤ w5.heap.size := by have := R0.lt; omega
              clear hc hz hz1 cR fR
              obtain ⟨i2, hi2, hz0, hz1, hz2⟩ := info_parts Try.info2
              have HI := Lib.hid hi2
              have HZ := Lib.hid (And.intro hz0 (And.intro hz1 hz2))
              clear hi2 hz0 hz1 hz2
              go_wp2_with (at_make; refine wpList_make_full w5 rfl (.tmp 81) (.tmp 81) 22 rfl (N + 2) 2 i2 (.int .i64 0) 1 Try.underlying22 HI.out HZ.out.1 HZ.out.2.1 .i64 .i64 _ _ rules.length rfl rfl rfl rfl (by rw [HZ.out.2.2]; omega) (by unfold maxLen; omega) hN2 ?_; intro w6 hSn hgr)
              have hb6 : Below w5.heap.size w5 w6 := (Below.refl _ _).grown hgr (Nat.le_refl _) (fun k hk => by cases hk)
              have hcells : (madeCells (Value.int .i64 0).cells (rules.length * 1)).toList = (fillK rules.length 0).map (.int .i64) := by
                rw [Nat.mul_one]; simp only [fillK, List.replicate_zero, List.nil_append, Nat.sub_zero, List.map_replicate]
                exact toList_madeCells_one _ _
              rw [hcells] at hSn
              have ha6 := Below.al (Below.refl w6.heap.size w6) (.cells #[.slice (some ⟨w5.heap.size, 0, none⟩) rules.length rules.length] 22)
              have B6 := NumAt.mk w6 22 (.slice (some ⟨w5.heap.size, 0, none⟩) rules.length rules.length) w6.heap.size rfl
              have hb7 := Below.call hb6 ha6
              have hfl := fillK_len rules.length 0 (Nat.zero_le _)
              have P : PI N w left b v (.slice oo rules.length oc) w6.heap.size (.slice (some ⟨w5.heap.size, 0, none⟩) rules.length rules.length) (rules.map st0) (-1) rules (fillK rules.length 0) (w6.alloc (.cells #[.slice (some ⟨w5.heap.size, 0, none⟩) rules.length rules.length] 22)) :=
                ⟨F0.keep hb7, R0.keep hb7, hWV.keep hb7, ownN_keepAt hOv (fun j hj => hb7.block j (World.ownsRow.lt hOv j hj).2), B6, by rw [hfl]; exact ownN_keepAt hSn (fun j hj => ha6.block j (World.ownsRow.lt hSn j hj).2), hbN, hvN, by have := hb6.size; omega, hb0.trans (hb7.mono (by omega))⟩
              generalize w6.alloc (.cells #[.slice (some ⟨w5.heap.size, 0, none⟩) rules.length rules.length] 22) = W7 at *
              obtain ⟨G, hG⟩ : ∃ G, w5.heap.size = G := ⟨_, rfl⟩
              obtain ⟨bs, hbs⟩ : ∃ bs, w6.heap.size = bs := ⟨_, rfl⟩
              rw [hG, hbs] at P
              rw [hG, hbs]
              clear F0 R0 hWV hOv B6 hSn hbN hvN hb0 hb6 hb7 ha6 hgr hcells hfl HI HZ hG hbs hN2
              go_loopw [85] (fun ii W => ∃ k : Nat, ii = .int .i64 k ∧ k ≤ rules.length ∧ PI N w left b v (.slice oo rules.length oc) bs (.slice (some ⟨G, 0, none⟩) rules.length rules.length) (rules.map st0) (-1) rules (fillK rules.length k) W) (fun ii _ => rules.length - (intOf ii).toNat)
              case atStart => exact ⟨0, rfl, Nat.zero_le _, P⟩
              case round =>
                clear P
                obtain ⟨k, rfl, hk, P⟩ := hrel
                by_cases hlt : k < rules.length
                · have hlt' : (k : Int) < (rules.length : Int) := by omega
                  have cB := P.box.cell
                  obtain ⟨cS, fS⟩ := ownN_cell (n := rules.length) (by have := P.sin; rw [fillK_len rules.length k hk] at this; exact this) (j := k) (u := .int .i64 0) (by rw [List.getElem?_map, fillK_get rules.length k k hk hlt, if_neg (by omega)]; rfl)
                  have P2 := P.setSin (fillK_len rules.length k hk).symm k (-1)
                  rw [← fillK_step rules.length k hlt] at P2
                  clear P
                  go_wp2_with fail
                  exact ⟨⟨k + 1, by simp, by omega, P2⟩, by simp [intOf]; omega⟩
                · obtain rfl : k = rules.length := by omega
                  rw [fillK_all] at P
                  clear hk hlt
                  go_wp2_with fail
                  go_loopw [12, 15, 94] (fun vo la ii W => ∃ (k : Nat) (L : List Fi.St) (last : Int) (v sv : Value) (rs : List Fi.Rule) (sn : List Int), ii = .int .i64 k ∧ k ≤ l.length ∧ la = .int .i64 last ∧ L.length ≤ 64 ∧ L.map (·.rule) = rs ∧ sinceL L = sn ∧ (∀ s ∈ L, SOk s) ∧ PI N w left b v vo bs sv L last rs sn W) (fun _ _ ii _ => l.length - (intOf ii).toNat)
                  case atStart =>
                    have hm : (rules.map st0).map (·.rule) = rules := by rw [List.map_map]; exact List.map_id _
                    refine ⟨0, rules.map st0, -1, v, _, rules, _, rfl, Nat.zero_le _, rfl, by rw [List.length_map]; exact h64n, hm, rfl, ?_, P⟩
                    intro s hs
                    obtain ⟨r, -, rfl⟩ := List.mem_map.1 hs
                    intro h; cases h
                  case round =>
                    clear P
                    obtain ⟨k, L, last, v, sv, rs, sn, rfl, hk, rfl, hL64, hrs, hsn, hok, P⟩ := hrel
                    have hrl : rs.length = L.length := by rw [← hrs, List.length_map]
                    have hsl : sn.length = L.length := by rw [← hsn, sinceL, List.length_map]
                    have Pown := P.own
                    rw [hrl] at Pown
                    obtain ⟨oo, oc, hof, -, -⟩ := ownN_form Pown
                    subst hof
                    by_cases hlt : k < l.length
                    · have hlt' : (k : Int) < (l.length : Int) := by omega
                      have hl9 : (l.length : Int) ≤ 9223372036854775807 := by unfold maxLen at h2; omega
                      obtain ⟨bl, off, rfl, hbl, hca⟩ := Steps.at (hl.keep (hN ▸ P.bel)) (by omega)
                      obtain ⟨c0, c1, c2, c3, c4, c5⟩ := hca k hlt
                      have hS := hl.2 l[k] (List.getElem_mem hlt)
                      have hs600 : l[k].l.length ≤ 600 := Nat.le_trans (tot_mem' (List.getElem_mem hlt)) htot
                      have hown := stpOwn hS
                      have hFw := hS.1
                      have hfa := hS.2.1
                      have hnow := hS.2.2.1
                      obtain ⟨xo, xc, hx, y1, y2, y3⟩ := hS.1.form
                      rw [hN] at hown
                      clear hca hS
                      generalize l[k] = s at *
                      have X := StpAt.new wr s
                      have hcN : N < wr.heap.size := P.lft.lt
                      replace P := P.keep (Below.al (Below.refl wr.heap.size wr) (.cells #[.bool s.add, .int .u8 s.r.kind, .int .u64 s.r.job, .int .i64 s.r.n, s.lv, .int .i64 s.now] 48))
                      rw [hx] at c4 P X hFw hown
                      clear Pown
                      cases hadd : s.add with
                      | true =>
                        rw [hadd] at c0 P X
                        clear hadd
                        go_wp2_with fail
                        generalize wr.alloc (.cells #[.bool true, .int .u8 s.r.kind, .int .u64 s.r.job, .int .i64 s.r.n, .slice xo s.l.length xc, .int .i64 s.now] 48) = W1 at *
                        obtain ⟨c, hcw⟩ : ∃ c, wr.heap.size = c := ⟨_, rfl⟩
                        rw [hcw] at X hcN ⊢
                        obtain ⟨x0, x1, x2, x3, x4, x5⟩ := X.facts
                        rw [hx] at x4
                        clear c0 c1 c2 c3 c4 c5 hbl hcw x0
                        cases hm : Fi.may s.r with
                        | false => as_aux_lemma =>
                          clear hFw hfa hnow hown hs600
                          refine (add_bad b s.r hm W1).mono ?_
                          rintro e W2 ⟨rfl, hc⟩
                          replace P := P.keep hc
                          replace X := X.keep hc
                          clear hc x1 x2 x3 x4 x5
                          obtain ⟨x0, x1, x2, x3, x4, x5⟩ := X.facts
                          rw [hx] at x4
                          clear x0
                          go_wp2_with fail
                          refine (refRuleMay_any s.r _).mono ?_
                          rw [hm]
                          rintro e W2 ⟨rfl, hc⟩
                          replace P := P.keep hc
                          replace X := X.keep hc
                          clear hc x1 x2 x3 x4 x5
                          obtain ⟨x0, x1, x2, x3, x4, x5⟩ := X.facts
                          rw [hx] at x4
                          clear x0
                          go_wp2_with fail
                          exact ⟨⟨k + 1, L, last, v, sv, rs, sn, by simp, by omega, rfl, hL64, hrs, hsn, hok, P⟩, by simp [intOf]; omega⟩
                        | true =>
                          by_cases h64 : L.length = 64
                          · as_aux_lemma =>
                            have h64' : (L.length : Int) = 64 := by omega
                            clear hFw hfa hnow hown hs600
                            refine (add_full b v L last h64 s.r hm W1 P.watch).mono ?_
                            rintro e W2 ⟨rfl, hc⟩
                            replace P := P.keep hc
                            replace X := X.keep hc
                            clear hc x1 x2 x3 x4 x5
                            obtain ⟨x0, x1, x2, x3, x4, x5⟩ := X.facts
                            rw [hx] at x4
                            clear x0
                            go_wp2_with fail
                            refine (refRuleMay_any s.r _).mono ?_
                            rw [hm]
                            rintro e W2 ⟨rfl, hc⟩
                            replace P := P.keep hc
                            replace X := X.keep hc
                            clear hc x1 x2 x3 x4 x5
                            obtain ⟨x0, x1, x2, x3, x4, x5⟩ := X.facts
                            rw [hx] at x4
                            clear x0
                            go_wp2_with fail
                            exact ⟨⟨k + 1, L, last, v, sv, rs, sn, by simp, by omega, rfl, hL64, hrs, hsn, hok, by rw [h64] at P; exact P⟩, by simp [intOf]; omega⟩
                          · as_aux_lemma =>
                            have h64l : L.length < 64 := by omega
                            have h64' : ¬ (L.length : Int) = 64 := by omega
                            clear hFw hfa hnow hown hs600
                            refine (add_any b v L last h64l s.r hm W1 P.watch).mono ?_
                            rintro e W2 ⟨v2, rfl, hW2, hvo, hO, hB⟩
                            have hv2 : ∀ k, v2.ownBlock = some k → N < k := fun k hk => by
                              rcases hvo with he | ⟨k', he, hk'⟩
                              · exact P.hv k (he ▸ hk)
                              · rw [he] at hk
                                have := Option.some.inj hk
                                have := P.lft.lt
                                omega
                            replace X := X.off (P.watT hO) (by decide)
                            replace P := P.wat hW2 hO hB hv2
                            clear hW2 hvo hO hB hv2 x1 x2 x3 x4 x5
                            obtain ⟨x0, x1, x2, x3, x4, x5⟩ := X.facts
                            rw [hx] at x4
                            clear x0
                            have hok2 : ∀ s' ∈ L ++ [⟨s.r, false, 0⟩], SOk s' := by
                              intro s' hs'
                              rcases List.mem_append.1 hs' with h | h
                              · exact hok s' h
                              · rw [List.mem_singleton.1 h]; intro h; cases h
                            go_wp2_with fail
                            refine (refRuleMay_any s.r _).mono ?_
                            rw [hm]
                            rintro e W3 ⟨rfl, hc⟩
                            replace P := P.keep hc
                            replace X := X.keep hc
                            clear hc x1 x2 x3 x4 x5
                            obtain ⟨x0, x1, x2, x3, x4, x5⟩ := X.facts
                            rw [hx] at x4
                            clear x0
                            go_upto_region 32 with fail
                            clear x1 x2 x3 x4 x5
                            refine wp_region_held_drew (S := fun w' => OffT [34, 22, 2] W3 w') (by kernel_rfl) (Off.refl _ W3).drew (fun _ => ?_)
                            have Po := P.own
                            rw [hrl] at Po
                            have Ps := P.sin
                            rw [hsl] at Ps
                            have G : RG N w W3 bs (.slice oo L.length oc) sv sv L.length L.length (rs.flatMap ruC) (sn.map (.int .i64)) W3.drew := ⟨Po.drew, P.box, Ps.drew, (Off.refl _ W3).drew, P.bel.drew, by have := P.res.lt; show N + 2 ≤ W3.heap.size; omega⟩
                            clear Po Ps
                            generalize W3.drew = Y0 at *
                            have e1 := fun w' (h : OffT [34, 22, 2] W3 w') => (X.off h (by decide)).facts.2.1
                            have e2 := fun w' (h : OffT [34, 22, 2] W3 w') => (X.off h (by decide)).facts.2.2.1
                            have e3 := fun w' (h : OffT [34, 22, 2] W3 w') => (X.off h (by decide)).facts.2.2.2.1
                            have g0 := G.off
                            refine wpAnyH_take (i := 0) (oi := { dst := _, op := _, type := _, pos := _, after := _, guard := _ }) (v := ?vg1_0) rfl (by kernel_rfl) (by kernel_rfl) (by kernel_rfl) (fun _ _ _ h => leaves_put 6 rfl (by decide) h) (Or.inl ⟨by rfl, ?yg1_0⟩) (by assumption) ?rg1_0; (case yg1_0 => intro w hSw; go_simp <;> with_reducible rfl); simp only [Act.put, List.setIfInBounds_toArray, List.set_cons_zero, List.set_cons_succ]
                            refine wpAnyH_take (i := 1) (oi := { dst := _, op := _, type := _, pos := _, after := _, guard := _ }) (v := ?vg2_1) rfl (by kernel_rfl) (by kernel_rfl) (by kernel_rfl) (fun _ _ _ h => leaves_put 6 rfl (by decide) h) (Or.inl ⟨by rfl, ?yg2_1⟩) (by assumption) ?rg2_1; (case yg2_1 => intro w hSw; go_simp <;> with_reducible rfl); simp only [Act.put, List.setIfInBounds_toArray, List.set_cons_zero, List.set_cons_succ]
                            refine wpAnyH_take (i := 2) (oi := { dst := _, op := _, type := _, pos := _, after := _, guard := _ }) (v := ?vg3_2) rfl (by kernel_rfl) (by kernel_rfl) (by kernel_rfl) (fun _ _ _ h => leaves_put 6 rfl (by decide) h) (Or.inl ⟨by rfl, ?yg3_2⟩) (by assumption) ?rg3_2; (case yg3_2 => intro w hSw; go_simp <;> with_reducible rfl); simp only [Act.put, List.setIfInBounds_toArray, List.set_cons_zero, List.set_cons_succ]
                            clear e1 e2 e3
                            refine wpAnyH_ready (rs := [3, 5, 6]) (by kernel_rfl) (by simp) ?_
                            refine AllReadyH.cons (o := { dst := _, op := _, type := _, pos := _, after := _, guard := _ }) rfl (fun K hK => ?_) (AllReadyH.cons (o := { dst := _, op := _, type := _, pos := _, after := _, guard := _ }) rfl (fun K hK => ?_) (AllReadyH.cons (o := { dst := _, op := _, type := _, pos := _, after := _, guard := _ }) rfl (fun K hK => ?_) AllReadyH.nil))
                            · rw [if_pos (show Region.wanted _ _ = true from rfl)]
                              go_simp
                              have hb := Below.al (Below.refl Y0.heap.size Y0) (.cells #[.int .u8 s.r.kind, .int .u64 s.r.job, .int .i64 s.r.n] 34)
                              have L3 := RuleAt.new Y0 34 s.r Y0.heap.size rfl
                              replace G := G.keep hb
                              generalize Y0.alloc (.cells #[.int .u8 s.r.kind, .int .u64 s.r.job, .int .i64 s.r.n] 34) = Y1 at *
                              clear hb
                              generalize Y0.heap.size = kr at *
                              refine hK.out _ _ G.off (fun _ => ?_)
                              clear hK K
                              refine wpAnyH_ready (rs := [4, 5, 6]) (by kernel_rfl) (by simp) ?_
                              refine AllReadyH.cons (o := { dst := _, op := _, type := _, pos := _, after := _, guard := _ }) rfl (fun K hK => ?_) (AllReadyH.cons (o := { dst := _, op := _, type := _, pos := _, after := _, guard := _ }) rfl (fun K hK => ?_) (AllReadyH.cons (o := { dst := _, op := _, type := _, pos := _, after := _, guard := _ }) rfl (fun K hK => ?_) AllReadyH.nil))
                              · rw [if_pos (show Region.wanted _ _ = true from rfl)]
                                refine wp_appOff Y1 _ _ 40 rfl (N + 2) 34 _ 3 24 Try.underlying40 Try.info34 (by decide) rfl (by decide) G.own (ruC s.r) rfl rfl ⟨kr, 0, none⟩ rfl (ruleCells L3) (ru_one _) (by omega) G.sz ?_
                                intro ov' Y2 hown' hT hB
                                replace G := G.app1 hown' hT hB
                                clear hown' hT hB L3
                                simp only [Act.put, List.setIfInBounds_toArray, List.set_cons_zero, List.set_cons_succ]
                                refine hK.out _ _ G.off (fun _ => ?_)
                                clear hK K
                                refine wpAnyH_ready (rs := [5, 6]) (by kernel_rfl) (by simp) ?_
                                refine AllReadyH.cons (o := { dst := _, op := _, type := _, pos := _, after := _, guard := _ }) rfl (fun K hK => ?_) (AllReadyH.cons (o := { dst := _, op := _, type := _, pos := _, after := _, guard := _ }) rfl (fun K hK => ?_) AllReadyH.nil)
                                · have cB := G.box.cell
                                  rw [if_pos (show Region.wanted _ _ = true from rfl)]
                                  go_simp
                                  refine hK.out _ _ G.off (fun _ => ?_)
                                  clear hK K cB
                                  refine wpAnyH_ready (rs := [6]) (by kernel_rfl) (by simp) ?_
                                  refine AllReadyH.cons (o := { dst := _, op := _, type := _, pos := _, after := _, guard := _ }) rfl (fun K hK => ?_) AllReadyH.nil
                                  rw [if_pos (show Region.wanted _ _ = true from rfl)]
                                  go_simp
                                  have hb := Below.al (Below.refl Y2.heap.size Y2) (.cells #[.int .i64 (-1)] 2)
                                  have L6 := NumAt.mk Y2 2 (.int .i64 (-1)) Y2.heap.size rfl
                                  replace G := G.keep hb
                                  generalize Y2.alloc (.cells #[.int .i64 (-1)] 2) = Y4 at *
                                  clear hb
                                  generalize Y2.heap.size = ks at *
                                  refine hK.out _ _ G.off (fun _ => ?_)
                                  clear hK K
                                  refine wpAnyH_ready (rs := [7]) (by kernel_rfl) (by simp) ?_
                                  refine AllReadyH.cons (o := { dst := _, op := _, type := _, pos := _, after := _, guard := _ }) rfl (fun K hK => ?_) AllReadyH.nil
                                  rw [if_pos (show Region.wanted _ _ = true from rfl)]
                                  refine wp_appOff Y4 _ _ 22 rfl (N + 2) 2 _ 1 8 Try.underlying22 Try.info2 (by decide) rfl (by decide) G.sin [.int .i64 (-1)] rfl rfl ⟨ks, 0, none⟩ rfl (numCells L6) (by simp [Value.oneCell']) (by omega) G.sz ?_
                                  intro sv' Y5 hown' hT hB
                                  replace G := G.app2 hown' hT hB
                                  clear hown' hT hB L6
                                  simp only [Act.put, List.setIfInBounds_toArray, List.set_cons_zero, List.set_cons_succ]
                                  refine hK.out _ _ G.off (fun _ => ?_)
                                  clear hK K
                                  refine wpAnyH_take (i := 8) (oi := { dst := _, op := _, type := _, pos := _, after := _, guard := _ }) (v := ?vg4_8) rfl (by kernel_rfl) (by kernel_rfl) (by kernel_rfl) (fun _ _ _ h => leaves_put 6 rfl (by decide) h) (Or.inl ⟨by rfl, ?yg4_8⟩) (by assumption) ?rg4_8; (case yg4_8 => intro w hSw; go_simp <;> with_reducible rfl); simp only [Act.put, List.setIfInBounds_toArray, List.set_cons_zero, List.set_cons_succ]
                                  obtain ⟨qo, qc, hsv', -, -⟩ := ownN_form G.sin
                                  subst hsv'
                                  have cB := G.box.cell
                                  have fB := G.box.froz
                                  refine wpAnyH_ready (rs := [9]) (by kernel_rfl) (by simp) ?_
                                  refine AllReadyH.cons (o := { dst := _, op := _, type := _, pos := _, after := _, guard := _ }) rfl (fun K hK => ?_) AllReadyH.nil
                                  rw [if_pos (show Region.wanted _ _ = true from rfl)]
                                  go_simp
                                  replace G := G.store P.hbs (.slice qo (L.length + 1) qc)
                                  refine hK.out _ _ G.off (fun _ => ?_)
                                  clear hK K cB fB
                                  refine wpAnyH_done (by kernel_rfl) ?_ _
                                  go_wp2_with fail
                                  all_goals exact ⟨⟨k + 1, L ++ [⟨s.r, false, 0⟩], last, v2, _, rs ++ [s.r], sn ++ [-1], by simp, by omega, rfl, by simp; omega, by simp [hrs], by simp [sinceL, ← hsn, sinceOf], hok2, P.rest (rs' := rs ++ [s.r]) (sn' := sn ++ [-1]) G.off G.bel (by rw [List.length_append, List.flatMap_append, hrl]; simpa using G.own) G.box (by rw [List.length_append, List.map_append, hsl]; simpa using G.sin)⟩, by simp [intOf]; omega⟩
                                · rw [if_pos (show Region.wanted _ _ = true from rfl)]
                                  go_simp
                                  have hb := Below.al (Below.refl Y2.heap.size Y2) (.cells #[.int .i64 (-1)] 2)
                                  have L6 := NumAt.mk Y2 2 (.int .i64 (-1)) Y2.heap.size rfl
                                  replace G := G.keep hb
                                  generalize Y2.alloc (.cells #[.int .i64 (-1)] 2) = Y3 at *
                                  clear hb
                                  generalize Y2.heap.size = ks at *
                                  refine hK.out _ _ G.off (fun _ => ?_)
                                  clear hK K
                                  refine wpAnyH_ready (rs := [5]) (by kernel_rfl) (by simp) ?_
                                  refine AllReadyH.cons (o := { dst := _, op := _, type := _, pos := _, after := _, guard := _ }) rfl (fun K hK => ?_) AllReadyH.nil
                                  have cB := G.box.cell
                                  rw [if_pos (show Region.wanted _ _ = true from rfl)]
                                  go_simp
                                  refine hK.out _ _ G.off (fun _ => ?_)
                                  clear hK K cB
                                  refine wpAnyH_ready (rs := [7]) (by kernel_rfl) (by simp) ?_
                                  refine AllReadyH.cons (o := { dst := _, op := _, type := _, pos := _, after := _, guard := _ }) rfl (fun K hK => ?_) AllReadyH.nil
                                  rw [if_pos (show Region.wanted _ _ = true from rfl)]
                                  refine wp_appOff Y3 _ _ 22 rfl (N + 2) 2 _ 1 8 Try.underlying22 Try.info2 (by decide) rfl (by decide) G.sin [.int .i64 (-1)] rfl rfl ⟨ks, 0, none⟩ rfl (numCells L6) (by simp [Value.oneCell']) (by omega) G.sz ?_
                                  intro sv' Y5 hown' hT hB
                                  replace G := G.app2 hown' hT hB
                                  clear hown' hT hB L6
                                  simp only [Act.put, List.setIfInBounds_toArray, List.set_cons_zero, List.set_cons_succ]
                                  refine hK.out _ _ G.off (fun _ => ?_)
                                  clear hK K
                                  refine wpAnyH_take (i := 8) (oi := { dst := _, op := _, type := _, pos := _, after := _, guard := _ }) (v := ?vg5_8) rfl (by kernel_rfl) (by kernel_rfl) (by kernel_rfl) (fun _ _ _ h => leaves_put 6 rfl (by decide) h) (Or.inl ⟨by rfl, ?yg5_8⟩) (by assumption) ?rg5_8; (case yg5_8 => intro w hSw; go_simp <;> with_reducible rfl); simp only [Act.put, List.setIfInBounds_toArray, List.set_cons_zero, List.set_cons_succ]
                                  obtain ⟨qo, qc, hsv', -, -⟩ := ownN_form G.sin
                                  subst hsv'
                                  have cB := G.box.cell
                                  have fB := G.box.froz
                                  refine wpAnyH_ready (rs := [9]) (by kernel_rfl) (by simp) ?_
                                  refine AllReadyH.cons (o := { dst := _, op := _, type := _, pos := _, after := _, guard := _ }) rfl (fun K hK => ?_) AllReadyH.nil
                                  rw [if_pos (show Region.wanted _ _ = true from rfl)]
                                  go_simp
                                  replace G := G.store P.hbs (.slice qo (L.length + 1) qc)
                                  refine hK.out _ _ G.off (fun _ => ?_)
                                  clear hK K cB fB
                                  refine wpAnyH_done (by kernel_rfl) ?_ _
                                  go_wp2_with fail
                                  all_goals exact ⟨⟨k + 1, L ++ [⟨s.r, false, 0⟩], last, v2, _, rs ++ [s.r], sn ++ [-1], by simp, by omega, rfl, by simp; omega, by simp [hrs], by simp [sinceL, ← hsn, sinceOf], hok2, P.rest (rs' := rs ++ [s.r]) (sn' := sn ++ [-1]) G.off G.bel (by rw [List.length_append, List.flatMap_append, hrl]; simpa using G.own) G.box (by rw [List.length_append, List.map_append, hsl]; simpa using G.sin)⟩, by simp [intOf]; omega⟩
                              · have cB := G.box.cell
                                rw [if_pos (show Region.wanted _ _ = true from rfl)]
                                go_simp
                                refine hK.out _ _ G.off (fun _ => ?_)
                                clear hK K cB
                                refine wpAnyH_ready (rs := [4, 6]) (by kernel_rfl) (by simp) ?_
                                refine AllReadyH.cons (o := { dst := _, op := _, type := _, pos := _, after := _, guard := _ }) rfl (fun K hK => ?_) (AllReadyH.cons (o := { dst := _, op := _, type := _, pos := _, after := _, guard := _ }) rfl (fun K hK => ?_) AllReadyH.nil)
                                · rw [if_pos (show Region.wanted _ _ = true from rfl)]
                                  refine wp_appOff Y1 _ _ 40 rfl (N + 2) 34 _ 3 24 Try.underlying40 Try.info34 (by decide) rfl (by decide) G.own (ruC s.r) rfl rfl ⟨kr, 0, none⟩ rfl (ruleCells L3) (ru_one _) (by omega) G.sz ?_
                                  intro ov' Y3 hown' hT hB
                                  replace G := G.app1 hown' hT hB
                                  clear hown' hT hB L3
                                  simp only [Act.put, List.setIfInBounds_toArray, List.set_cons_zero, List.set_cons_succ]
                                  refine hK.out _ _ G.off (fun _ => ?_)
                                  clear hK K
                                  refine wpAnyH_ready (rs := [6]) (by kernel_rfl) (by simp) ?_
                                  refine AllReadyH.cons (o := { dst := _, op := _, type := _, pos := _, after := _, guard := _ }) rfl (fun K hK => ?_) AllReadyH.nil
                                  rw [if_pos (show Region.wanted _ _ = true from rfl)]
                                  go_simp
                                  have hb := Below.al (Below.refl Y3.heap.size Y3) (.cells #[.int .i64 (-1)] 2)
                                  have L6 := NumAt.mk Y3 2 (.int .i64 (-1)) Y3.heap.size rfl
                                  replace G := G.keep hb
                                  generalize Y3.alloc (.cells #[.int .i64 (-1)] 2) = Y4 at *
                                  clear hb
                                  generalize Y3.heap.size = ks at *
                                  refine hK.out _ _ G.off (fun _ => ?_)
                                  clear hK K
                                  refine wpAnyH_ready (rs := [7]) (by kernel_rfl) (by simp) ?_
                                  refine AllReadyH.cons (o := { dst := _, op := _, type := _, pos := _, after := _, guard := _ }) rfl (fun K hK => ?_) AllReadyH.nil
                                  rw [if_pos (show Region.wanted _ _ = true from rfl)]
                                  refine wp_appOff Y4 _ _ 22 rfl (N + 2) 2 _ 1 8 Try.underlying22 Try.info2 (by decide) rfl (by decide) G.sin [.int .i64 (-1)] rfl rfl ⟨ks, 0, none⟩ rfl (numCells L6) (by simp [Value.oneCell']) (by omega) G.sz ?_
                                  intro sv' Y5 hown' hT hB
                                  replace G := G.app2 hown' hT hB
                                  clear hown' hT hB L6
                                  simp only [Act.put, List.setIfInBounds_toArray, List.set_cons_zero, List.set_cons_succ]
                                  refine hK.out _ _ G.off (fun _ => ?_)
                                  clear hK K
                                  refine wpAnyH_take (i := 8) (oi := { dst := _, op := _, type := _, pos := _, after := _, guard := _ }) (v := ?vg6_8) rfl (by kernel_rfl) (by kernel_rfl) (by kernel_rfl) (fun _ _ _ h => leaves_put 6 rfl (by decide) h) (Or.inl ⟨by rfl, ?yg6_8⟩) (by assumption) ?rg6_8; (case yg6_8 => intro w hSw; go_simp <;> with_reducible rfl); simp only [Act.put, List.setIfInBounds_toArray, List.set_cons_zero, List.set_cons_succ]
                                  obtain ⟨qo, qc, hsv', -, -⟩ := ownN_form G.sin
                                  subst hsv'
                                  have cB := G.box.cell
                                  have fB := G.box.froz
                                  refine wpAnyH_ready (rs := [9]) (by kernel_rfl) (by simp) ?_
                                  refine AllReadyH.cons (o := { dst := _, op := _, type := _, pos := _, after := _, guard := _ }) rfl (fun K hK => ?_) AllReadyH.nil
                                  rw [if_pos (show Region.wanted _ _ = true from rfl)]
                                  go_simp
                                  replace G := G.store P.hbs (.slice qo (L.length + 1) qc)
                                  refine hK.out _ _ G.off (fun _ => ?_)
                                  clear hK K cB fB
                                  refine wpAnyH_done (by kernel_rfl) ?_ _
                                  go_wp2_with fail
                                  all_goals exact ⟨⟨k + 1, L ++ [⟨s.r, false, 0⟩], last, v2, _, rs ++ [s.r], sn ++ [-1], by simp, by omega, rfl, by simp; omega, by simp [hrs], by simp [sinceL, ← hsn, sinceOf], hok2, P.rest (rs' := rs ++ [s.r]) (sn' := sn ++ [-1]) G.off G.bel (by rw [List.length_append, List.flatMap_append, hrl]; simpa using G.own) G.box (by rw [List.length_append, List.map_append, hsl]; simpa using G.sin)⟩, by simp [intOf]; omega⟩
                                · rw [if_pos (show Region.wanted _ _ = true from rfl)]
                                  go_simp
                                  have hb := Below.al (Below.refl Y1.heap.size Y1) (.cells #[.int .i64 (-1)] 2)
                                  have L6 := NumAt.mk Y1 2 (.int .i64 (-1)) Y1.heap.size rfl
                                  replace G := G.keep hb
                                  replace L3 := L3.keep hb
                                  generalize Y1.alloc (.cells #[.int .i64 (-1)] 2) = Y3 at *
                                  clear hb
                                  generalize Y1.heap.size = ks at *
                                  refine hK.out _ _ G.off (fun _ => ?_)
                                  clear hK K
                                  refine wpAnyH_ready (rs := [4]) (by kernel_rfl) (by simp) ?_
                                  refine AllReadyH.cons (o := { dst := _, op := _, type := _, pos := _, after := _, guard := _ }) rfl (fun K hK => ?_) AllReadyH.nil
                                  rw [if_pos (show Region.wanted _ _ = true from rfl)]
                                  refine wp_appOff Y3 _ _ 40 rfl (N + 2) 34 _ 3 24 Try.underlying40 Try.info34 (by decide) rfl (by decide) G.own (ruC s.r) rfl rfl ⟨kr, 0, none⟩ rfl (ruleCells L3) (ru_one _) (by omega) G.sz ?_
                                  intro ov' Y4 hown' hT hB
                                  replace G := G.app1 hown' hT hB
                                  replace L6 := hT.num L6 (by decide)
                                  clear hown' hT hB L3
                                  simp only [Act.put, List.setIfInBounds_toArray, List.set_cons_zero, List.set_cons_succ]
                                  refine hK.out _ _ G.off (fun _ => ?_)
                                  clear hK K
                                  refine wpAnyH_ready (rs := [7]) (by kernel_rfl) (by simp) ?_
                                  refine AllReadyH.cons (o := { dst := _, op := _, type := _, pos := _, after := _, guard := _ }) rfl (fun K hK => ?_) AllReadyH.nil
                                  rw [if_pos (show Region.wanted _ _ = true from rfl)]
                                  refine wp_appOff Y4 _ _ 22 rfl (N + 2) 2 _ 1 8 Try.underlying22 Try.info2 (by decide) rfl (by decide) G.sin [.int .i64 (-1)] rfl rfl ⟨ks, 0, none⟩ rfl (numCells L6) (by simp [Value.oneCell']) (by omega) G.sz ?_
                                  intro sv' Y5 hown' hT hB
                                  replace G := G.app2 hown' hT hB
                                  clear hown' hT hB L6
                                  simp only [Act.put, List.setIfInBounds_toArray, List.set_cons_zero, List.set_cons_succ]
                                  refine hK.out _ _ G.off (fun _ => ?_)
                                  clear hK K
                                  refine wpAnyH_take (i := 8) (oi := { dst := _, op := _, type := _, pos := _, after := _, guard := _ }) (v := ?vg7_8) rfl (by kernel_rfl) (by kernel_rfl) (by kernel_rfl) (fun _ _ _ h => leaves_put 6 rfl (by decide) h) (Or.inl ⟨by rfl, ?yg7_8⟩) (by assumption) ?rg7_8; (case yg7_8 => intro w hSw; go_simp <;> with_reducible rfl); simp only [Act.put, List.setIfInBounds_toArray, List.set_cons_zero, List.set_cons_succ]
                                  obtain ⟨qo, qc, hsv', -, -⟩ := ownN_form G.sin
                                  subst hsv'
                                  have cB := G.box.cell
                                  have fB := G.box.froz
                                  refine wpAnyH_ready (rs := [9]) (by kernel_rfl) (by simp) ?_
                                  refine AllReadyH.cons (o := { dst := _, op := _, type := _, pos := _, after := _, guard := _ }) rfl (fun K hK => ?_) AllReadyH.nil
                                  rw [if_pos (show Region.wanted _ _ = true from rfl)]
                                  go_simp
                                  replace G := G.store P.hbs (.slice qo (L.length + 1) qc)
                                  refine hK.out _ _ G.off (fun _ => ?_)
                                  clear hK K cB fB
                                  refine wpAnyH_done (by kernel_rfl) ?_ _
                                  go_wp2_with fail
                                  all_goals exact ⟨⟨k + 1, L ++ [⟨s.r, false, 0⟩], last, v2, _, rs ++ [s.r], sn ++ [-1], by simp, by omega, rfl, by simp; omega, by simp [hrs], by simp [sinceL, ← hsn, sinceOf], hok2, P.rest (rs' := rs ++ [s.r]) (sn' := sn ++ [-1]) G.off G.bel (by rw [List.length_append, List.flatMap_append, hrl]; simpa using G.own) G.box (by rw [List.length_append, List.map_append, hsl]; simpa using G.sin)⟩, by simp [intOf]; omega⟩
                              · rw [if_pos (show Region.wanted _ _ = true from rfl)]
                                go_simp
                                have hb := Below.al (Below.refl Y1.heap.size Y1) (.cells #[.int .i64 (-1)] 2)
                                have L6 := NumAt.mk Y1 2 (.int .i64 (-1)) Y1.heap.size rfl
                                replace G := G.keep hb
                                replace L3 := L3.keep hb
                                generalize Y1.alloc (.cells #[.int .i64 (-1)] 2) = Y2 at *
                                clear hb
                                generalize Y1.heap.size = ks at *
                                refine hK.out _ _ G.off (fun _ => ?_)
                                clear hK K
                                refine wpAnyH_ready (rs := [4, 5]) (by kernel_rfl) (by simp) ?_
                                refine AllReadyH.cons (o := { dst := _, op := _, type := _, pos := _, after := _, guard := _ }) rfl (fun K hK => ?_) (AllReadyH.cons (o := { dst := _, op := _, type := _, pos := _, after := _, guard := _ }) rfl (fun K hK => ?_) AllReadyH.nil)
                                · rw [if_pos (show Region.wanted _ _ = true from rfl)]
                                  refine wp_appOff Y2 _ _ 40 rfl (N + 2) 34 _ 3 24 Try.underlying40 Try.info34 (by decide) rfl (by decide) G.own (ruC s.r) rfl rfl ⟨kr, 0, none⟩ rfl (ruleCells L3) (ru_one _) (by omega) G.sz ?_
                                  intro ov' Y3 hown' hT hB
                                  replace G := G.app1 hown' hT hB
                                  replace L6 := hT.num L6 (by decide)
                                  clear hown' hT hB L3
                                  simp only [Act.put, List.setIfInBounds_toArray, List.set_cons_zero, List.set_cons_succ]
                                  refine hK.out _ _ G.off (fun _ => ?_)
                                  clear hK K
                                  refine wpAnyH_ready (rs := [5]) (by kernel_rfl) (by simp) ?_
                                  refine AllReadyH.cons (o := { dst := _, op := _, type := _, pos := _, after := _, guard := _ }) rfl (fun K hK => ?_) AllReadyH.nil
                                  have cB := G.box.cell
                                  rw [if_pos (show Region.wanted _ _ = true from rfl)]
                                  go_simp
                                  refine hK.out _ _ G.off (fun _ => ?_)
                                  clear hK K cB
                                  refine wpAnyH_ready (rs := [7]) (by kernel_rfl) (by simp) ?_
                                  refine AllReadyH.cons (o := { dst := _, op := _, type := _, pos := _, after := _, guard := _ }) rfl (fun K hK => ?_) AllReadyH.nil
                                  rw [if_pos (show Region.wanted _ _ = true from rfl)]
                                  refine wp_appOff Y3 _ _ 22 rfl (N + 2) 2 _ 1 8 Try.underlying22 Try.info2 (by decide) rfl (by decide) G.sin [.int .i64 (-1)] rfl rfl ⟨ks, 0, none⟩ rfl (numCells L6) (by simp [Value.oneCell']) (by omega) G.sz ?_
                                  intro sv' Y5 hown' hT hB
                                  replace G := G.app2 hown' hT hB
                                  clear hown' hT hB L6
                                  simp only [Act.put, List.setIfInBounds_toArray, List.set_cons_zero, List.set_cons_succ]
                                  refine hK.out _ _ G.off (fun _ => ?_)
                                  clear hK K
                                  refine wpAnyH_take (i := 8) (oi := { dst := _, op := _, type := _, pos := _, after := _, guard := _ }) (v := ?vg8_8) rfl (by kernel_rfl) (by kernel_rfl) (by kernel_rfl) (fun _ _ _ h => leaves_put 6 rfl (by decide) h) (Or.inl ⟨by rfl, ?yg8_8⟩) (by assumption) ?rg8_8; (case yg8_8 => intro w hSw; go_simp <;> with_reducible rfl); simp only [Act.put, List.setIfInBounds_toArray, List.set_cons_zero, List.set_cons_succ]
                                  obtain ⟨qo, qc, hsv', -, -⟩ := ownN_form G.sin
                                  subst hsv'
                                  have cB := G.box.cell
                                  have fB := G.box.froz
                                  refine wpAnyH_ready (rs := [9]) (by kernel_rfl) (by simp) ?_
                                  refine AllReadyH.cons (o := { dst := _, op := _, type := _, pos := _, after := _, guard := _ }) rfl (fun K hK => ?_) AllReadyH.nil
                                  rw [if_pos (show Region.wanted _ _ = true from rfl)]
                                  go_simp
                                  replace G := G.store P.hbs (.slice qo (L.length + 1) qc)
                                  refine hK.out _ _ G.off (fun _ => ?_)
                                  clear hK K cB fB
                                  refine wpAnyH_done (by kernel_rfl) ?_ _
                                  go_wp2_with fail
                                  all_goals exact ⟨⟨k + 1, L ++ [⟨s.r, false, 0⟩], last, v2, _, rs ++ [s.r], sn ++ [-1], by simp, by omega, rfl, by simp; omega, by simp [hrs], by simp [sinceL, ← hsn, sinceOf], hok2, P.rest (rs' := rs ++ [s.r]) (sn' := sn ++ [-1]) G.off G.bel (by rw [List.length_append, List.flatMap_append, hrl]; simpa using G.own) G.box (by rw [List.length_append, List.map_append, hsl]; simpa using G.sin)⟩, by simp [intOf]; omega⟩
                                · have cB := G.box.cell
                                  rw [if_pos (show Region.wanted _ _ = true from rfl)]
                                  go_simp
                                  refine hK.out _ _ G.off (fun _ => ?_)
                                  clear hK K cB
                                  refine wpAnyH_ready (rs := [4]) (by kernel_rfl) (by simp) ?_
                                  refine AllReadyH.cons (o := { dst := _, op := _, type := _, pos := _, after := _, guard := _ }) rfl (fun K hK => ?_) AllReadyH.nil
                                  rw [if_pos (show Region.wanted _ _ = true from rfl)]
                                  refine wp_appOff Y2 _ _ 40 rfl (N + 2) 34 _ 3 24 Try.underlying40 Try.info34 (by decide) rfl (by decide) G.own (ruC s.r) rfl rfl ⟨kr, 0, none⟩ rfl (ruleCells L3) (ru_one _) (by omega) G.sz ?_
                                  intro ov' Y4 hown' hT hB
                                  replace G := G.app1 hown' hT hB
                                  replace L6 := hT.num L6 (by decide)
                                  clear hown' hT hB L3
                                  simp only [Act.put, List.setIfInBounds_toArray, List.set_cons_zero, List.set_cons_succ]
                                  refine hK.out _ _ G.off (fun _ => ?_)
                                  clear hK K
                                  refine wpAnyH_ready (rs := [7]) (by kernel_rfl) (by simp) ?_
                                  refine AllReadyH.cons (o := { dst := _, op := _, type := _, pos := _, after := _, guard := _ }) rfl (fun K hK => ?_) AllReadyH.nil
                                  rw [if_pos (show Region.wanted _ _ = true from rfl)]
                                  refine wp_appOff Y4 _ _ 22 rfl (N + 2) 2 _ 1 8 Try.underlying22 Try.info2 (by decide) rfl (by decide) G.sin [.int .i64 (-1)] rfl rfl ⟨ks, 0, none⟩ rfl (numCells L6) (by simp [Value.oneCell']) (by omega) G.sz ?_
                                  intro sv' Y5 hown' hT hB
                                  replace G := G.app2 hown' hT hB
                                  clear hown' hT hB L6
                                  simp only [Act.put, List.setIfInBounds_toArray, List.set_cons_zero, List.set_cons_succ]
                                  refine hK.out _ _ G.off (fun _ => ?_)
                                  clear hK K
                                  refine wpAnyH_take (i := 8) (oi := { dst := _, op := _, type := _, pos := _, after := _, guard := _ }) (v := ?vg9_8) rfl (by kernel_rfl) (by kernel_rfl) (by kernel_rfl) (fun _ _ _ h => leaves_put 6 rfl (by decide) h) (Or.inl ⟨by rfl, ?yg9_8⟩) (by assumption) ?rg9_8; (case yg9_8 => intro w hSw; go_simp <;> with_reducible rfl); simp only [Act.put, List.setIfInBounds_toArray, List.set_cons_zero, List.set_cons_succ]
                                  obtain ⟨qo, qc, hsv', -, -⟩ := ownN_form G.sin
                                  subst hsv'
                                  have cB := G.box.cell
                                  have fB := G.box.froz
                                  refine wpAnyH_ready (rs := [9]) (by kernel_rfl) (by simp) ?_
                                  refine AllReadyH.cons (o := { dst := _, op := _, type := _, pos := _, after := _, guard := _ }) rfl (fun K hK => ?_) AllReadyH.nil
                                  rw [if_pos (show Region.wanted _ _ = true from rfl)]
                                  go_simp
                                  replace G := G.store P.hbs (.slice qo (L.length + 1) qc)
                                  refine hK.out _ _ G.off (fun _ => ?_)
                                  clear hK K cB fB
                                  refine wpAnyH_done (by kernel_rfl) ?_ _
                                  go_wp2_with fail
                                  all_goals exact ⟨⟨k + 1, L ++ [⟨s.r, false, 0⟩], last, v2, _, rs ++ [s.r], sn ++ [-1], by simp, by omega, rfl, by simp; omega, by simp [hrs], by simp [sinceL, ← hsn, sinceOf], hok2, P.rest (rs' := rs ++ [s.r]) (sn' := sn ++ [-1]) G.off G.bel (by rw [List.length_append, List.flatMap_append, hrl]; simpa using G.own) G.box (by rw [List.length_append, List.map_append, hsl]; simpa using G.sin)⟩, by simp [intOf]; omega⟩
                            · have cB := G.box.cell
                              rw [if_pos (show Region.wanted _ _ = true from rfl)]
                              go_simp
                              refine hK.out _ _ G.off (fun _ => ?_)
                              clear hK K cB
                              refine wpAnyH_ready (rs := [3, 6]) (by kernel_rfl) (by simp) ?_
                              refine AllReadyH.cons (o := { dst := _, op := _, type := _, pos := _, after := _, guard := _ }) rfl (fun K hK => ?_) (AllReadyH.cons (o := { dst := _, op := _, type := _, pos := _, after := _, guard := _ }) rfl (fun K hK => ?_) AllReadyH.nil)
                              · rw [if_pos (show Region.wanted _ _ = true from rfl)]
                                go_simp
                                have hb := Below.al (Below.refl Y0.heap.size Y0) (.cells #[.int .u8 s.r.kind, .int .u64 s.r.job, .int .i64 s.r.n] 34)
                                have L3 := RuleAt.new Y0 34 s.r Y0.heap.size rfl
                                replace G := G.keep hb
                                generalize Y0.alloc (.cells #[.int .u8 s.r.kind, .int .u64 s.r.job, .int .i64 s.r.n] 34) = Y2 at *
                                clear hb
                                generalize Y0.heap.size = kr at *
                                refine hK.out _ _ G.off (fun _ => ?_)
                                clear hK K
                                refine wpAnyH_ready (rs := [4, 6]) (by kernel_rfl) (by simp) ?_
                                refine AllReadyH.cons (o := { dst := _, op := _, type := _, pos := _, after := _, guard := _ }) rfl (fun K hK => ?_) (AllReadyH.cons (o := { dst := _, op := _, type := _, pos := _, after := _, guard := _ }) rfl (fun K hK => ?_) AllReadyH.nil)
                                · rw [if_pos (show Region.wanted _ _ = true from rfl)]
                                  refine wp_appOff Y2 _ _ 40 rfl (N + 2) 34 _ 3 24 Try.underlying40 Try.info34 (by decide) rfl (by decide) G.own (ruC s.r) rfl rfl ⟨kr, 0, none⟩ rfl (ruleCells L3) (ru_one _) (by omega) G.sz ?_
                                  intro ov' Y3 hown' hT hB
                                  replace G := G.app1 hown' hT hB
                                  clear hown' hT hB L3
                                  simp only [Act.put, List.setIfInBounds_toArray, List.set_cons_zero, List.set_cons_succ]
                                  refine hK.out _ _ G.off (fun _ => ?_)
                                  clear hK K
                                  refine wpAnyH_ready (rs := [6]) (by kernel_rfl) (by simp) ?_
                                  refine AllReadyH.cons (o := { dst := _, op := _, type := _, pos := _, after := _, guard := _ }) rfl (fun K hK => ?_) AllReadyH.nil
                                  rw [if_pos (show Region.wanted _ _ = true from rfl)]
                                  go_simp
                                  have hb := Below.al (Below.refl Y3.heap.size Y3) (.cells #[.int .i64 (-1)] 2)
                                  have L6 := NumAt.mk Y3 2 (.int .i64 (-1)) Y3.heap.size rfl
                                  replace G := G.keep hb
                                  generalize Y3.alloc (.cells #[.int .i64 (-1)] 2) = Y4 at *
                                  clear hb
                                  generalize Y3.heap.size = ks at *
                                  refine hK.out _ _ G.off (fun _ => ?_)
                                  clear hK K
                                  refine wpAnyH_ready (rs := [7]) (by kernel_rfl) (by simp) ?_
                                  refine AllReadyH.cons (o := { dst := _, op := _, type := _, pos := _, after := _, guard := _ }) rfl (fun K hK => ?_) AllReadyH.nil
                                  rw [if_pos (show Region.wanted _ _ = true from rfl)]
                                  refine wp_appOff Y4 _ _ 22 rfl (N + 2) 2 _ 1 8 Try.underlying22 Try.info2 (by decide) rfl (by decide) G.sin [.int .i64 (-1)] rfl rfl ⟨ks, 0, none⟩ rfl (numCells L6) (by simp [Value.oneCell']) (by omega) G.sz ?_
                                  intro sv' Y5 hown' hT hB
                                  replace G := G.app2 hown' hT hB
                                  clear hown' hT hB L6
                                  simp only [Act.put, List.setIfInBounds_toArray, List.set_cons_zero, List.set_cons_succ]
                                  refine hK.out _ _ G.off (fun _ => ?_)
                                  clear hK K
                                  refine wpAnyH_take (i := 8) (oi := { dst := _, op := _, type := _, pos := _, after := _, guard := _ }) (v := ?vg10_8) rfl (by kernel_rfl) (by kernel_rfl) (by kernel_rfl) (fun _ _ _ h => leaves_put 6 rfl (by decide) h) (Or.inl ⟨by rfl, ?yg10_8⟩) (by assumption) ?rg10_8; (case yg10_8 => intro w hSw; go_simp <;> with_reducible rfl); simp only [Act.put, List.setIfInBounds_toArray, List.set_cons_zero, List.set_cons_succ]
                                  obtain ⟨qo, qc, hsv', -, -⟩ := ownN_form G.sin
                                  subst hsv'
                                  have cB := G.box.cell
                                  have fB := G.box.froz
                                  refine wpAnyH_ready (rs := [9]) (by kernel_rfl) (by simp) ?_
                                  refine AllReadyH.cons (o := { dst := _, op := _, type := _, pos := _, after := _, guard := _ }) rfl (fun K hK => ?_) AllReadyH.nil
                                  rw [if_pos (show Region.wanted _ _ = true from rfl)]
                                  go_simp
                                  replace G := G.store P.hbs (.slice qo (L.length + 1) qc)
                                  refine hK.out _ _ G.off (fun _ => ?_)
                                  clear hK K cB fB
                                  refine wpAnyH_done (by kernel_rfl) ?_ _
                                  go_wp2_with fail
                                  all_goals exact ⟨⟨k + 1, L ++ [⟨s.r, false, 0⟩], last, v2, _, rs ++ [s.r], sn ++ [-1], by simp, by omega, rfl, by simp; omega, by simp [hrs], by simp [sinceL, ← hsn, sinceOf], hok2, P.rest (rs' := rs ++ [s.r]) (sn' := sn ++ [-1]) G.off G.bel (by rw [List.length_append, List.flatMap_append, hrl]; simpa using G.own) G.box (by rw [List.length_append, List.map_append, hsl]; simpa using G.sin)⟩, by simp [intOf]; omega⟩
                                · rw [if_pos (show Region.wanted _ _ = true from rfl)]
                                  go_simp
                                  have hb := Below.al (Below.refl Y2.heap.size Y2) (.cells #[.int .i64 (-1)] 2)
                                  have L6 := NumAt.mk Y2 2 (.int .i64 (-1)) Y2.heap.size rfl
                                  replace G := G.keep hb
                                  replace L3 := L3.keep hb
                                  generalize Y2.alloc (.cells #[.int .i64 (-1)] 2) = Y3 at *
                                  clear hb
                                  generalize Y2.heap.size = ks at *
                                  refine hK.out _ _ G.off (fun _ => ?_)
                                  clear hK K
                                  refine wpAnyH_ready (rs := [4]) (by kernel_rfl) (by simp) ?_
                                  refine AllReadyH.cons (o := { dst := _, op := _, type := _, pos := _, after := _, guard := _ }) rfl (fun K hK => ?_) AllReadyH.nil
                                  rw [if_pos (show Region.wanted _ _ = true from rfl)]
                                  refine wp_appOff Y3 _ _ 40 rfl (N + 2) 34 _ 3 24 Try.underlying40 Try.info34 (by decide) rfl (by decide) G.own (ruC s.r) rfl rfl ⟨kr, 0, none⟩ rfl (ruleCells L3) (ru_one _) (by omega) G.sz ?_
                                  intro ov' Y4 hown' hT hB
                                  replace G := G.app1 hown' hT hB
                                  replace L6 := hT.num L6 (by decide)
                                  clear hown' hT hB L3
                                  simp only [Act.put, List.setIfInBounds_toArray, List.set_cons_zero, List.set_cons_succ]
                                  refine hK.out _ _ G.off (fun _ => ?_)
                                  clear hK K
                                  refine wpAnyH_ready (rs := [7]) (by kernel_rfl) (by simp) ?_
                                  refine AllReadyH.cons (o := { dst := _, op := _, type := _, pos := _, after := _, guard := _ }) rfl (fun K hK => ?_) AllReadyH.nil
                                  rw [if_pos (show Region.wanted _ _ = true from rfl)]
                                  refine wp_appOff Y4 _ _ 22 rfl (N + 2) 2 _ 1 8 Try.underlying22 Try.info2 (by decide) rfl (by decide) G.sin [.int .i64 (-1)] rfl rfl ⟨ks, 0, none⟩ rfl (numCells L6) (by simp [Value.oneCell']) (by omega) G.sz ?_
                                  intro sv' Y5 hown' hT hB
                                  replace G := G.app2 hown' hT hB
                                  clear hown' hT hB L6
                                  simp only [Act.put, List.setIfInBounds_toArray, List.set_cons_zero, List.set_cons_succ]
                                  refine hK.out _ _ G.off (fun _ => ?_)
                                  clear hK K
                                  refine wpAnyH_take (i := 8) (oi := { dst := _, op := _, type := _, pos := _, after := _, guard := _ }) (v := ?vg11_8) rfl (by kernel_rfl) (by kernel_rfl) (by kernel_rfl) (fun _ _ _ h => leaves_put 6 rfl (by decide) h) (Or.inl ⟨by rfl, ?yg11_8⟩) (by assumption) ?rg11_8; (case yg11_8 => intro w hSw; go_simp <;> with_reducible rfl); simp only [Act.put, List.setIfInBounds_toArray, List.set_cons_zero, List.set_cons_succ]
                                  obtain ⟨qo, qc, hsv', -, -⟩ := ownN_form G.sin
                                  subst hsv'
                                  have cB := G.box.cell
                                  have fB := G.box.froz
                                  refine wpAnyH_ready (rs := [9]) (by kernel_rfl) (by simp) ?_
                                  refine AllReadyH.cons (o := { dst := _, op := _, type := _, pos := _, after := _, guard := _ }) rfl (fun K hK => ?_) AllReadyH.nil
                                  rw [if_pos (show Region.wanted _ _ = true from rfl)]
                                  go_simp
                                  replace G := G.store P.hbs (.slice qo (L.length + 1) qc)
                                  refine hK.out _ _ G.off (fun _ => ?_)
                                  clear hK K cB fB
                                  refine wpAnyH_done (by kernel_rfl) ?_ _
                                  go_wp2_with fail
                                  all_goals exact ⟨⟨k + 1, L ++ [⟨s.r, false, 0⟩], last, v2, _, rs ++ [s.r], sn ++ [-1], by simp, by omega, rfl, by simp; omega, by simp [hrs], by simp [sinceL, ← hsn, sinceOf], hok2, P.rest (rs' := rs ++ [s.r]) (sn' := sn ++ [-1]) G.off G.bel (by rw [List.length_append, List.flatMap_append, hrl]; simpa using G.own) G.box (by rw [List.length_append, List.map_append, hsl]; simpa using G.sin)⟩, by simp [intOf]; omega⟩
                              · rw [if_pos (show Region.wanted _ _ = true from rfl)]
                                go_simp
                                have hb := Below.al (Below.refl Y0.heap.size Y0) (.cells #[.int .i64 (-1)] 2)
                                have L6 := NumAt.mk Y0 2 (.int .i64 (-1)) Y0.heap.size rfl
                                replace G := G.keep hb
                                generalize Y0.alloc (.cells #[.int .i64 (-1)] 2) = Y2 at *
                                clear hb
                                generalize Y0.heap.size = ks at *
                                refine hK.out _ _ G.off (fun _ => ?_)
                                clear hK K
                                refine wpAnyH_ready (rs := [3]) (by kernel_rfl) (by simp) ?_
                                refine AllReadyH.cons (o := { dst := _, op := _, type := _, pos := _, after := _, guard := _ }) rfl (fun K hK => ?_) AllReadyH.nil
                                rw [if_pos (show Region.wanted _ _ = true from rfl)]
                                go_simp
                                have hb := Below.al (Below.refl Y2.heap.size Y2) (.cells #[.int .u8 s.r.kind, .int .u64 s.r.job, .int .i64 s.r.n] 34)
                                have L3 := RuleAt.new Y2 34 s.r Y2.heap.size rfl
                                replace G := G.keep hb
                                replace L6 := L6.keep hb
                                generalize Y2.alloc (.cells #[.int .u8 s.r.kind, .int .u64 s.r.job, .int .i64 s.r.n] 34) = Y3 at *
                                clear hb
                                generalize Y2.heap.size = kr at *
                                refine hK.out _ _ G.off (fun _ => ?_)
                                clear hK K
                                refine wpAnyH_ready (rs := [4]) (by kernel_rfl) (by simp) ?_
                                refine AllReadyH.cons (o := { dst := _, op := _, type := _, pos := _, after := _, guard := _ }) rfl (fun K hK => ?_) AllReadyH.nil
                                rw [if_pos (show Region.wanted _ _ = true from rfl)]
                                refine wp_appOff Y3 _ _ 40 rfl (N + 2) 34 _ 3 24 Try.underlying40 Try.info34 (by decide) rfl (by decide) G.own (ruC s.r) rfl rfl ⟨kr, 0, none⟩ rfl (ruleCells L3) (ru_one _) (by omega) G.sz ?_
                                intro ov' Y4 hown' hT hB
                                replace G := G.app1 hown' hT hB
                                replace L6 := hT.num L6 (by decide)
                                clear hown' hT hB L3
                                simp only [Act.put, List.setIfInBounds_toArray, List.set_cons_zero, List.set_cons_succ]
                                refine hK.out _ _ G.off (fun _ => ?_)
                                clear hK K
                                refine wpAnyH_ready (rs := [7]) (by kernel_rfl) (by simp) ?_
                                refine AllReadyH.cons (o := { dst := _, op := _, type := _, pos := _, after := _, guard := _ }) rfl (fun K hK => ?_) AllReadyH.nil
                                rw [if_pos (show Region.wanted _ _ = true from rfl)]
                                refine wp_appOff Y4 _ _ 22 rfl (N + 2) 2 _ 1 8 Try.underlying22 Try.info2 (by decide) rfl (by decide) G.sin [.int .i64 (-1)] rfl rfl ⟨ks, 0, none⟩ rfl (numCells L6) (by simp [Value.oneCell']) (by omega) G.sz ?_
                                intro sv' Y5 hown' hT hB
                                replace G := G.app2 hown' hT hB
                                clear hown' hT hB L6
                                simp only [Act.put, List.setIfInBounds_toArray, List.set_cons_zero, List.set_cons_succ]
                                refine hK.out _ _ G.off (fun _ => ?_)
                                clear hK K
                                refine wpAnyH_take (i := 8) (oi := { dst := _, op := _, type := _, pos := _, after := _, guard := _ }) (v := ?vg12_8) rfl (by kernel_rfl) (by kernel_rfl) (by kernel_rfl) (fun _ _ _ h => leaves_put 6 rfl (by decide) h) (Or.inl ⟨by rfl, ?yg12_8⟩) (by assumption) ?rg12_8; (case yg12_8 => intro w hSw; go_simp <;> with_reducible rfl); simp only [Act.put, List.setIfInBounds_toArray, List.set_cons_zero, List.set_cons_succ]
                                obtain ⟨qo, qc, hsv', -, -⟩ := ownN_form G.sin
                                subst hsv'
                                have cB := G.box.cell
                                have fB := G.box.froz
                                refine wpAnyH_ready (rs := [9]) (by kernel_rfl) (by simp) ?_
                                refine AllReadyH.cons (o := { dst := _, op := _, type := _, pos := _, after := _, guard := _ }) rfl (fun K hK => ?_) AllReadyH.nil
                                rw [if_pos (show Region.wanted _ _ = true from rfl)]
                                go_simp
                                replace G := G.store P.hbs (.slice qo (L.length + 1) qc)
                                refine hK.out _ _ G.off (fun _ => ?_)
                                clear hK K cB fB
                                refine wpAnyH_done (by kernel_rfl) ?_ _
                                go_wp2_with fail
                                all_goals exact ⟨⟨k + 1, L ++ [⟨s.r, false, 0⟩], last, v2, _, rs ++ [s.r], sn ++ [-1], by simp, by omega, rfl, by simp; omega, by simp [hrs], by simp [sinceL, ← hsn, sinceOf], hok2, P.rest (rs' := rs ++ [s.r]) (sn' := sn ++ [-1]) G.off G.bel (by rw [List.length_append, List.flatMap_append, hrl]; simpa using G.own) G.box (by rw [List.length_append, List.map_append, hsl]; simpa using G.sin)⟩, by simp [intOf]; omega⟩
                            · rw [if_pos (show Region.wanted _ _ = true from rfl)]
                              go_simp
                              have hb := Below.al (Below.refl Y0.heap.size Y0) (.cells #[.int .i64 (-1)] 2)
                              have L6 := NumAt.mk Y0 2 (.int .i64 (-1)) Y0.heap.size rfl
                              replace G := G.keep hb
                              generalize Y0.alloc (.cells #[.int .i64 (-1)] 2) = Y1 at *
                              clear hb
                              generalize Y0.heap.size = ks at *
                              refine hK.out _ _ G.off (fun _ => ?_)
                              clear hK K
                              refine wpAnyH_ready (rs := [3, 5]) (by kernel_rfl) (by simp) ?_
                              refine AllReadyH.cons (o := { dst := _, op := _, type := _, pos := _, after := _, guard := _ }) rfl (fun K hK => ?_) (AllReadyH.cons (o := { dst := _, op := _, type := _, pos := _, after := _, guard := _ }) rfl (fun K hK => ?_) AllReadyH.nil)
                              · rw [if_pos (show Region.wanted _ _ = true from rfl)]
                                go_simp
                                have hb := Below.al (Below.refl Y1.heap.size Y1) (.cells #[.int .u8 s.r.kind, .int .u64 s.r.job, .int .i64 s.r.n] 34)
                                have L3 := RuleAt.new Y1 34 s.r Y1.heap.size rfl
                                replace G := G.keep hb
                                replace L6 := L6.keep hb
                                generalize Y1.alloc (.cells #[.int .u8 s.r.kind, .int .u64 s.r.job, .int .i64 s.r.n] 34) = Y2 at *
                                clear hb
                                generalize Y1.heap.size = kr at *
                                refine hK.out _ _ G.off (fun _ => ?_)
                                clear hK K
                                refine wpAnyH_ready (rs := [4, 5]) (by kernel_rfl) (by simp) ?_
                                refine AllReadyH.cons (o := { dst := _, op := _, type := _, pos := _, after := _, guard := _ }) rfl (fun K hK => ?_) (AllReadyH.cons (o := { dst := _, op := _, type := _, pos := _, after := _, guard := _ }) rfl (fun K hK => ?_) AllReadyH.nil)
                                · rw [if_pos (show Region.wanted _ _ = true from rfl)]
                                  refine wp_appOff Y2 _ _ 40 rfl (N + 2) 34 _ 3 24 Try.underlying40 Try.info34 (by decide) rfl (by decide) G.own (ruC s.r) rfl rfl ⟨kr, 0, none⟩ rfl (ruleCells L3) (ru_one _) (by omega) G.sz ?_
                                  intro ov' Y3 hown' hT hB
                                  replace G := G.app1 hown' hT hB
                                  replace L6 := hT.num L6 (by decide)
                                  clear hown' hT hB L3
                                  simp only [Act.put, List.setIfInBounds_toArray, List.set_cons_zero, List.set_cons_succ]
                                  refine hK.out _ _ G.off (fun _ => ?_)
                                  clear hK K
                                  refine wpAnyH_ready (rs := [5]) (by kernel_rfl) (by simp) ?_
                                  refine AllReadyH.cons (o := { dst := _, op := _, type := _, pos := _, after := _, guard := _ }) rfl (fun K hK => ?_) AllReadyH.nil
                                  have cB := G.box.cell
                                  rw [if_pos (show Region.wanted _ _ = true from rfl)]
                                  go_simp
                                  refine hK.out _ _ G.off (fun _ => ?_)
                                  clear hK K cB
                                  refine wpAnyH_ready (rs := [7]) (by kernel_rfl) (by simp) ?_
                                  refine AllReadyH.cons (o := { dst := _, op := _, type := _, pos := _, after := _, guard := _ }) rfl (fun K hK => ?_) AllReadyH.nil
                                  rw [if_pos (show Region.wanted _ _ = true from rfl)]
                                  refine wp_appOff Y3 _ _ 22 rfl (N + 2) 2 _ 1 8 Try.underlying22 Try.info2 (by decide) rfl (by decide) G.sin [.int .i64 (-1)] rfl rfl ⟨ks, 0, none⟩ rfl (numCells L6) (by simp [Value.oneCell']) (by omega) G.sz ?_
                                  intro sv' Y5 hown' hT hB
                                  replace G := G.app2 hown' hT hB
                                  clear hown' hT hB L6
                                  simp only [Act.put, List.setIfInBounds_toArray, List.set_cons_zero, List.set_cons_succ]
                                  refine hK.out _ _ G.off (fun _ => ?_)
                                  clear hK K
                                  refine wpAnyH_take (i := 8) (oi := { dst := _, op := _, type := _, pos := _, after := _, guard := _ }) (v := ?vg13_8) rfl (by kernel_rfl) (by kernel_rfl) (by kernel_rfl) (fun _ _ _ h => leaves_put 6 rfl (by decide) h) (Or.inl ⟨by rfl, ?yg13_8⟩) (by assumption) ?rg13_8; (case yg13_8 => intro w hSw; go_simp <;> with_reducible rfl); simp only [Act.put, List.setIfInBounds_toArray, List.set_cons_zero, List.set_cons_succ]
                                  obtain ⟨qo, qc, hsv', -, -⟩ := ownN_form G.sin
                                  subst hsv'
                                  have cB := G.box.cell
                                  have fB := G.box.froz
                                  refine wpAnyH_ready (rs := [9]) (by kernel_rfl) (by simp) ?_
                                  refine AllReadyH.cons (o := { dst := _, op := _, type := _, pos := _, after := _, guard := _ }) rfl (fun K hK => ?_) AllReadyH.nil
                                  rw [if_pos (show Region.wanted _ _ = true from rfl)]
                                  go_simp
                                  replace G := G.store P.hbs (.slice qo (L.length + 1) qc)
                                  refine hK.out _ _ G.off (fun _ => ?_)
                                  clear hK K cB fB
                                  refine wpAnyH_done (by kernel_rfl) ?_ _
                                  go_wp2_with fail
                                  all_goals exact ⟨⟨k + 1, L ++ [⟨s.r, false, 0⟩], last, v2, _, rs ++ [s.r], sn ++ [-1], by simp, by omega, rfl, by simp; omega, by simp [hrs], by simp [sinceL, ← hsn, sinceOf], hok2, P.rest (rs' := rs ++ [s.r]) (sn' := sn ++ [-1]) G.off G.bel (by rw [List.length_append, List.flatMap_append, hrl]; simpa using G.own) G.box (by rw [List.length_append, List.map_append, hsl]; simpa using G.sin)⟩, by simp [intOf]; omega⟩
                                · have cB := G.box.cell
                                  rw [if_pos (show Region.wanted _ _ = true from rfl)]
                                  go_simp
                                  refine hK.out _ _ G.off (fun _ => ?_)
                                  clear hK K cB
                                  refine wpAnyH_ready (rs := [4]) (by kernel_rfl) (by simp) ?_
                                  refine AllReadyH.cons (o := { dst := _, op := _, type := _, pos := _, after := _, guard := _ }) rfl (fun K hK => ?_) AllReadyH.nil
                                  rw [if_pos (show Region.wanted _ _ = true from rfl)]
                                  refine wp_appOff Y2 _ _ 40 rfl (N + 2) 34 _ 3 24 Try.underlying40 Try.info34 (by decide) rfl (by decide) G.own (ruC s.r) rfl rfl ⟨kr, 0, none⟩ rfl (ruleCells L3) (ru_one _) (by omega) G.sz ?_
                                  intro ov' Y4 hown' hT hB
                                  replace G := G.app1 hown' hT hB
                                  replace L6 := hT.num L6 (by decide)
                                  clear hown' hT hB L3
                                  simp only [Act.put, List.setIfInBounds_toArray, List.set_cons_zero, List.set_cons_succ]
                                  refine hK.out _ _ G.off (fun _ => ?_)
                                  clear hK K
                                  refine wpAnyH_ready (rs := [7]) (by kernel_rfl) (by simp) ?_
                                  refine AllReadyH.cons (o := { dst := _, op := _, type := _, pos := _, after := _, guard := _ }) rfl (fun K hK => ?_) AllReadyH.nil
                                  rw [if_pos (show Region.wanted _ _ = true from rfl)]
                                  refine wp_appOff Y4 _ _ 22 rfl (N + 2) 2 _ 1 8 Try.underlying22 Try.info2 (by decide) rfl (by decide) G.sin [.int .i64 (-1)] rfl rfl ⟨ks, 0, none⟩ rfl (numCells L6) (by simp [Value.oneCell']) (by omega) G.sz ?_
                                  intro sv' Y5 hown' hT hB
                                  replace G := G.app2 hown' hT hB
                                  clear hown' hT hB L6
                                  simp only [Act.put, List.setIfInBounds_toArray, List.set_cons_zero, List.set_cons_succ]
                                  refine hK.out _ _ G.off (fun _ => ?_)
                                  clear hK K
                                  refine wpAnyH_take (i := 8) (oi := { dst := _, op := _, type := _, pos := _, after := _, guard := _ }) (v := ?vg14_8) rfl (by kernel_rfl) (by kernel_rfl) (by kernel_rfl) (fun _ _ _ h => leaves_put 6 rfl (by decide) h) (Or.inl ⟨by rfl, ?yg14_8⟩) (by assumption) ?rg14_8; (case yg14_8 => intro w hSw; go_simp <;> with_reducible rfl); simp only [Act.put, List.setIfInBounds_toArray, List.set_cons_zero, List.set_cons_succ]
                                  obtain ⟨qo, qc, hsv', -, -⟩ := ownN_form G.sin
                                  subst hsv'
                                  have cB := G.box.cell
                                  have fB := G.box.froz
                                  refine wpAnyH_ready (rs := [9]) (by kernel_rfl) (by simp) ?_
                                  refine AllReadyH.cons (o := { dst := _, op := _, type := _, pos := _, after := _, guard := _ }) rfl (fun K hK => ?_) AllReadyH.nil
                                  rw [if_pos (show Region.wanted _ _ = true from rfl)]
                                  go_simp
                                  replace G := G.store P.hbs (.slice qo (L.length + 1) qc)
                                  refine hK.out _ _ G.off (fun _ => ?_)
                                  clear hK K cB fB
                                  refine wpAnyH_done (by kernel_rfl) ?_ _
                                  go_wp2_with fail
                                  all_goals exact ⟨⟨k + 1, L ++ [⟨s.r, false, 0⟩], last, v2, _, rs ++ [s.r], sn ++ [-1], by simp, by omega, rfl, by simp; omega, by simp [hrs], by simp [sinceL, ← hsn, sinceOf], hok2, P.rest (rs' := rs ++ [s.r]) (sn' := sn ++ [-1]) G.off G.bel (by rw [List.length_append, List.flatMap_append, hrl]; simpa using G.own) G.box (by rw [List.length_append, List.map_append, hsl]; simpa using G.sin)⟩, by simp [intOf]; omega⟩
                              · have cB := G.box.cell
                                rw [if_pos (show Region.wanted _ _ = true from rfl)]
                                go_simp
                                refine hK.out _ _ G.off (fun _ => ?_)
                                clear hK K cB
                                refine wpAnyH_ready (rs := [3]) (by kernel_rfl) (by simp) ?_
                                refine AllReadyH.cons (o := { dst := _, op := _, type := _, pos := _, after := _, guard := _ }) rfl (fun K hK => ?_) AllReadyH.nil
                                rw [if_pos (show Region.wanted _ _ = true from rfl)]
                                go_simp
                                have hb := Below.al (Below.refl Y1.heap.size Y1) (.cells #[.int .u8 s.r.kind, .int .u64 s.r.job, .int .i64 s.r.n] 34)
                                have L3 := RuleAt.new Y1 34 s.r Y1.heap.size rfl
                                replace G := G.keep hb
                                replace L6 := L6.keep hb
                                generalize Y1.alloc (.cells #[.int .u8 s.r.kind, .int .u64 s.r.job, .int .i64 s.r.n] 34) = Y3 at *
                                clear hb
                                generalize Y1.heap.size = kr at *
                                refine hK.out _ _ G.off (fun _ => ?_)
                                clear hK K
                                refine wpAnyH_ready (rs := [4]) (by kernel_rfl) (by simp) ?_
                                refine AllReadyH.cons (o := { dst := _, op := _, type := _, pos := _, after := _, guard := _ }) rfl (fun K hK => ?_) AllReadyH.nil
                                rw [if_pos (show Region.wanted _ _ = true from rfl)]
                                refine wp_appOff Y3 _ _ 40 rfl (N + 2) 34 _ 3 24 Try.underlying40 Try.info34 (by decide) rfl (by decide) G.own (ruC s.r) rfl rfl ⟨kr, 0, none⟩ rfl (ruleCells L3) (ru_one _) (by omega) G.sz ?_
                                intro ov' Y4 hown' hT hB
                                replace G := G.app1 hown' hT hB
                                replace L6 := hT.num L6 (by decide)
                                clear hown' hT hB L3
                                simp only [Act.put, List.setIfInBounds_toArray, List.set_cons_zero, List.set_cons_succ]
                                refine hK.out _ _ G.off (fun _ => ?_)
                                clear hK K
                                refine wpAnyH_ready (rs := [7]) (by kernel_rfl) (by simp) ?_
                                refine AllReadyH.cons (o := { dst := _, op := _, type := _, pos := _, after := _, guard := _ }) rfl (fun K hK => ?_) AllReadyH.nil
                                rw [if_pos (show Region.wanted _ _ = true from rfl)]
                                refine wp_appOff Y4 _ _ 22 rfl (N + 2) 2 _ 1 8 Try.underlying22 Try.info2 (by decide) rfl (by decide) G.sin [.int .i64 (-1)] rfl rfl ⟨ks, 0, none⟩ rfl (numCells L6) (by simp [Value.oneCell']) (by omega) G.sz ?_
                                intro sv' Y5 hown' hT hB
                                replace G := G.app2 hown' hT hB
                                clear hown' hT hB L6
                                simp only [Act.put, List.setIfInBounds_toArray, List.set_cons_zero, List.set_cons_succ]
                                refine hK.out _ _ G.off (fun _ => ?_)
                                clear hK K
                                refine wpAnyH_take (i := 8) (oi := { dst := _, op := _, type := _, pos := _, after := _, guard := _ }) (v := ?vg15_8) rfl (by kernel_rfl) (by kernel_rfl) (by kernel_rfl) (fun _ _ _ h => leaves_put 6 rfl (by decide) h) (Or.inl ⟨by rfl, ?yg15_8⟩) (by assumption) ?rg15_8; (case yg15_8 => intro w hSw; go_simp <;> with_reducible rfl); simp only [Act.put, List.setIfInBounds_toArray, List.set_cons_zero, List.set_cons_succ]
                                obtain ⟨qo, qc, hsv', -, -⟩ := ownN_form G.sin
                                subst hsv'
                                have cB := G.box.cell
                                have fB := G.box.froz
                                refine wpAnyH_ready (rs := [9]) (by kernel_rfl) (by simp) ?_
                                refine AllReadyH.cons (o := { dst := _, op := _, type := _, pos := _, after := _, guard := _ }) rfl (fun K hK => ?_) AllReadyH.nil
                                rw [if_pos (show Region.wanted _ _ = true from rfl)]
                                go_simp
                                replace G := G.store P.hbs (.slice qo (L.length + 1) qc)
                                refine hK.out _ _ G.off (fun _ => ?_)
                                clear hK K cB fB
                                refine wpAnyH_done (by kernel_rfl) ?_ _
                                go_wp2_with fail
                                all_goals exact ⟨⟨k + 1, L ++ [⟨s.r, false, 0⟩], last, v2, _, rs ++ [s.r], sn ++ [-1], by simp, by omega, rfl, by simp; omega, by simp [hrs], by simp [sinceL, ← hsn, sinceOf], hok2, P.rest (rs' := rs ++ [s.r]) (sn' := sn ++ [-1]) G.off G.bel (by rw [List.length_append, List.flatMap_append, hrl]; simpa using G.own) G.box (by rw [List.length_append, List.map_append, hsl]; simpa using G.sin)⟩, by simp [intOf]; omega⟩
                      | false =>
                        rw [hadd] at c0 P X
                        clear hadd
                        go_wp2_with fail
                        generalize wr.alloc (.cells #[.bool false, .int .u8 s.r.kind, .int .u64 s.r.job, .int .i64 s.r.n, .slice xo s.l.length xc, .int .i64 s.now] 48) = W1 at *
                        obtain ⟨c, hcw⟩ : ∃ c, wr.heap.size = c := ⟨_, rfl⟩
                        rw [hcw] at X hcN ⊢
                        obtain ⟨x0, x1, x2, x3, x4, x5⟩ := X.facts
                        rw [hx] at x4
                        clear c0 c1 c2 c3 c4 c5 hbl hcw x0
                        by_cases hold : s.now < 0 ∨ (0 ≤ s.now ∧ s.now < last)
                        · as_aux_lemma =>
                          refine (look_old b v _ L last s.now hold W1 P.watch).mono ?_
                          rintro e _ ⟨rfl, rfl⟩
                          have hold' : s.now < 0 ∨ s.now < last := by omega
                          by_cases hn0 : s.now < 0
                          · go_wp2_with fail
                            exact ⟨⟨k + 1, L, last, v, sv, rs, sn, by simp, by omega, rfl, hL64, hrs, hsn, hok, P⟩, by simp [intOf]; omega⟩
                          · have hnl : s.now < last := by omega
                            go_wp2_with fail
                            exact ⟨⟨k + 1, L, last, v, sv, rs, sn, by simp, by omega, rfl, hL64, hrs, hsn, hok, P⟩, by simp [intOf]; omega⟩
                        · have hl0 : 0 ≤ s.now ∧ last ≤ s.now := by omega
                          clear hold
                          have hsv : s.l ≠ [] → ∀ k, (Value.slice xo s.l.length xc).ownBlock = some k → ¬ (k = b ∨ v.ownBlock = some k) := fun hne k hk he => by
                            have h1 := hown hne k hk
                            rcases he with he | he
                            · have := P.hb; omega
                            · have := P.hv k he; omega
                          refine (look_any b v _ L s.l last s.now (by omega) (by omega) hfa hl0.1 hl0.2 hnow W1 P.watch (hFw.keep (hN ▸ P.bel)) hsv).mono ?_
                          rintro e W2 ⟨va, rfl, hW2, hA, hO, hB⟩
                          obtain ⟨va', acap, rfl, -, -⟩ := ownN_form hA
                          replace X := X.off (P.watT hO) (by decide)
                          have P2 := P.wat hW2 hO hB P.hv
                          rw [← hsn, ← sinceAt_0 s.l s.now L] at P2
                          obtain ⟨R, hR⟩ : ∃ R, Fi.rings s.l s.now 0 L = R := ⟨_, rfl⟩
                          obtain ⟨L', hL'⟩ : ∃ L', Fi.look s.l s.now L = L' := ⟨_, rfl⟩
                          have hRL : R.length ≤ L.length := hR ▸ Fi.rings_len s.l s.now L 0
                          have hok' := look_ok (F := s.l) hl0.1 hok
                          rw [hR] at hA ⊢
                          rw [hL'] at P2 hok'
                          have hn1 : ¬ s.now < 0 := by omega
                          have hn2 : ¬ s.now < last := by omega
                          obtain ⟨M, hM⟩ : ∃ M, W1.heap.size = M := ⟨_, rfl⟩
                          obtain ⟨M2, hM2⟩ : ∃ M2, W2.heap.size = M2 := ⟨_, rfl⟩
                          have hNM := P2.lft.lt
                          rw [hM2] at hNM
                          have hAl := fun k hk => (World.ownsRow.lt hA k hk).2
                          rw [hM2] at hAl
                          rw [hM] at hA
                          clear hW2 hO hB hsv P x1 x2 x3 x4 x5 hM
                          obtain ⟨x0, x1, x2, x3, x4, x5⟩ := X.facts
                          rw [hx] at x4
                          go_wp2_with fail
                          go_loopw [22, 173] (fun wv ii W => ∃ i : Nat, ii = .int .i64 i ∧ i ≤ L.length ∧ PI N w left b v (.slice oo L.length oc) bs sv L' s.now rs (sinceAt s.l s.now L i) W ∧ StpAt W c s ∧ W.ownsRow M 53 3 (.slice va' R.length acap) R.length (R.flatMap alC) ∧ W.ownsRow M2 53 3 wv (Fi.rings s.l s.now 0 (L.take i)).length ((Fi.rings s.l s.now 0 (L.take i)).flatMap alC) ∧ M2 ≤ W.heap.size) (fun _ ii _ => L.length - (intOf ii).toNat)
                          case atStart => exact ⟨0, rfl, Nat.zero_le _, P2, X, hA, World.ownsRow_nil _ _ _ _, Nat.le_of_eq hM2.symm⟩
                          case round =>
                            clear P2 X hA x0 x1 x2 x3 x4 x5 hM2
                            obtain ⟨i, rfl, hi, P, X, A, U, hsz⟩ := hrel
                            by_cases hil : i < L.length
                            · have hil' : (i : Int) < (L.length : Int) := by omega
                              have hir : i < rs.length := by omega
                              obtain ⟨go, fo, rfl, hgo, hcr⟩ := Rus.at (Row.own ruC_len P.own (by omega)) (by omega)
                              obtain ⟨r0, r1, r2⟩ := hcr i hir
                              have hri : rs[i] = L[i].rule := by simp [← hrs]
                              rw [hri] at r0 r1 r2
                              have hxi : L[i]? = some L[i] := List.getElem?_eq_getElem hil
                              have hge := sinceOf_ge (hok _ (List.getElem_mem hil))
                              have hsg := sinceAt_get s.l s.now L i i _ hxi
                              rw [if_neg (by omega)] at hsg
                              have hst := sinceAt_step s.l s.now L i _ hxi
                              have hrt := rings_take s.l s.now L i _ hxi
                              have hqu' := sinceAt_quiet s.l s.now L i _ hxi
                              have htu' := sinceOf_turn (F := s.l) (now := s.now) (s := L[i])
                              have hrg : Fi.ring s.l s.now i L[i] = if Fi.amiss L[i].rule s.l s.now = L[i].on then [] else [⟨i, Fi.amiss L[i].rule s.l s.now, s.now⟩] := rfl
                              have Ps := P.sin
                              rw [sinceAt_len] at Ps
                              obtain ⟨gs, gc, hsv, -, -⟩ := ownN_row Ps (by omega)
                              subst hsv
                              clear hcr hri hxi Ps hgo
                              generalize L[i] = x at *
                              have hal := Below.al (Below.refl wr.heap.size wr) (.cells #[.int .u8 x.rule.kind, .int .u64 x.rule.job, .int .i64 x.rule.n] 34)
                              replace P := P.keep hal
                              replace X := X.keep hal
                              replace A := ownN_keepAt A (fun j hj => hal.block j (World.ownsRow.lt A j hj).2)
                              replace U := ownN_keepAt U (fun j hj => hal.block j (World.ownsRow.lt U j hj).2)
                              replace hsz := Nat.le_trans hsz hal.size
                              have hAm := refAmiss_any x.rule s.l (.slice xo s.l.length xc) s.now hfa hnow (by omega) _ (hFw.keep (hN ▸ P.bel))
                              obtain ⟨x0, x1, x2, x3, x4, x5⟩ := X.facts
                              rw [hx] at x4
                              clear hal
                              go_wp2_with fail
                              refine hAm.mono ?_
                              clear hAm
                              rintro e W5 ⟨rfl, hc⟩
                              replace P := P.keep hc
                              replace X := X.keep hc
                              replace A := ownN_keepAt A (fun j hj => hc.block j (World.ownsRow.lt A j hj).2)
                              replace U := ownN_keepAt U (fun j hj => hc.block j (World.ownsRow.lt U j hj).2)
                              replace hsz := Nat.le_trans hsz hc.size
                              clear hc x0 x1 x2 x3 x4 x5 r0 r1 r2
                              obtain ⟨x0, x1, x2, x3, x4, x5⟩ := X.facts
                              rw [hx] at x4
                              have cB := P.box.cell
                              have Ps := P.sin
                              rw [sinceAt_len] at Ps
                              obtain ⟨cS, fS⟩ := ownN_cell Ps (j := i) (u := .int .i64 (sinceOf x)) (by rw [List.getElem?_map, hsg]; rfl)
                              clear Ps
                              have hUl : (Fi.rings s.l s.now 0 (L.take i)).length ≤ 64 := by have := Fi.rings_len s.l s.now (L.take i) 0; rw [List.length_take] at this; omega
                              generalize Fi.amiss x.rule s.l s.now = q at *
                              have hsx : x.on = false → sinceOf x = -1 := fun h => by unfold sinceOf; rw [if_neg (by simp [h])]
                              generalize sinceOf x = so at *
                              cases hon : x.on with
                              | true =>
                                rw [hon] at hge hqu' htu' hrg
                                have hso : 0 ≤ so := of_decide_eq_true hge
                                cases q with
                                | true => as_aux_lemma =>
                                  rw [if_pos rfl] at hrg
                                  rw [hrg, List.append_nil] at hrt
                                  have hqu := hqu' rfl
                                  have HR := Lib.hid hrt
                                  have HQ := Lib.hid hqu
                                  clear hrt hqu hqu' htu' hst hrg hge
                                  go_wp2_with fail
                                  all_goals exact ⟨⟨i + 1, by simp, by omega, by rw [HQ.out]; exact P, X, A, by rw [HR.out]; exact U, hsz⟩, by simp [intOf]; omega⟩
                                | false => as_aux_lemma =>
                                  rw [if_neg (by decide)] at hrg
                                  rw [hrg] at hrt
                                  have htu := htu' (by decide)
                                  rw [if_neg (by decide)] at htu
                                  rw [htu] at hst
                                  have HR := Lib.hid hrt
                                  have HS := Lib.hid hst
                                  clear hrt hst hqu' htu' htu hrg hge
                                  go_wp2_with (at_builtin; refine wpList_appOff W5 rfl _ _ 49 rfl M2 53 _ 3 24 Try.underlying49 Try.info53 (by decide) rfl (by decide) U [.int .i64 i, .bool false, .int .i64 s.now] rfl rfl rfl (al_one ⟨i, false, s.now⟩) (by omega) hsz ?_; intro v' w' hU hT hB; have P' := P.offT hT (P.bel.trans (hB.mono (by omega))); have X' := X.off hT (by decide); have A' := ownN_keepAt A (fun j hj => hB.block j (hAl j hj)); have P2 := P'.setSin (sinceAt_len _ _ _ _).symm i (-1); have hTs : OffT [2] w' (w'.setCell ⟨gs, i, none⟩ (.int .i64 (-1))) := Off.mono (Off.setCell (Fr := fun k => k = gs) (Off.refl _ _) (a := ⟨gs, i, none⟩) rfl _) (by rintro k rfl; exact ⟨2, by simp, row_ty P'.sin rfl⟩); have X2 := X'.off hTs (by decide); have cB' := P'.box.cell; have cB2 := P2.box.cell; have Q' := P'.sin; rw [sinceAt_len] at Q'; obtain ⟨cS', fS'⟩ := ownN_cell Q' (j := i) (u := .int .i64 so) (by rw [List.getElem?_map, hsg]; rfl); have Q2 := P2.sin; rw [List.length_set, sinceAt_len] at Q2; obtain ⟨cS2, fS2⟩ := ownN_cell Q2 (j := i) (u := .int .i64 (-1)) (by rw [List.getElem?_map, List.getElem?_set, if_pos rfl, if_pos (by rw [sinceAt_len]; omega)]; rfl); clear Q' Q2; obtain ⟨y0, y1, y2, y3, y4, y5⟩ := X'.facts; obtain ⟨z0, z1, z2, z3, z4, z5⟩ := X2.facts)
                                  refine ⟨⟨i + 1, by simp, by omega, by rw [HS.out]; exact P2, X2, hTs.row A' (by decide), ?_, by simpa using Nat.le_trans hsz hB.size⟩, by simp [intOf]; omega⟩
                                  rw [HR.out, List.length_append, List.flatMap_append]
                                  exact hTs.row hU (by decide)
                              | false =>
                                rw [hon] at hge hqu' htu' hrg
                                have hso : ¬ 0 ≤ so := of_decide_eq_false hge
                                obtain rfl := hsx hon
                                clear hsx
                                cases q with
                                | true => as_aux_lemma =>
                                  rw [if_neg (by decide)] at hrg
                                  rw [hrg] at hrt
                                  have htu := htu' (by decide)
                                  rw [if_pos rfl] at htu
                                  rw [htu] at hst
                                  have HR := Lib.hid hrt
                                  have HS := Lib.hid hst
                                  clear hrt hst hqu' htu' htu hrg hge
                                  go_wp2_with (at_builtin; refine wpList_appOff W5 rfl _ _ 49 rfl M2 53 _ 3 24 Try.underlying49 Try.info53 (by decide) rfl (by decide) U [.int .i64 i, .bool true, .int .i64 s.now] rfl rfl rfl (al_one ⟨i, true, s.now⟩) (by omega) hsz ?_; intro v' w' hU hT hB; have P' := P.offT hT (P.bel.trans (hB.mono (by omega))); have X' := X.off hT (by decide); have A' := ownN_keepAt A (fun j hj => hB.block j (hAl j hj)); have P2 := P'.setSin (sinceAt_len _ _ _ _).symm i (-1); have hTs : OffT [2] w' (w'.setCell ⟨gs, i, none⟩ (.int .i64 (-1))) := Off.mono (Off.setCell (Fr := fun k => k = gs) (Off.refl _ _) (a := ⟨gs, i, none⟩) rfl _) (by rintro k rfl; exact ⟨2, by simp, row_ty P'.sin rfl⟩); have X2 := X'.off hTs (by decide); have cB' := P'.box.cell; have cB2 := P2.box.cell; have Q' := P'.sin; rw [sinceAt_len] at Q'; obtain ⟨cS', fS'⟩ := ownN_cell Q' (j := i) (u := .int .i64 (-1)) (by rw [List.getElem?_map, hsg]; rfl); have Q2 := P2.sin; rw [List.length_set, sinceAt_len] at Q2; obtain ⟨cS2, fS2⟩ := ownN_cell Q2 (j := i) (u := .int .i64 (-1)) (by rw [List.getElem?_map, List.getElem?_set, if_pos rfl, if_pos (by rw [sinceAt_len]; omega)]; rfl); clear Q' Q2; obtain ⟨y0, y1, y2, y3, y4, y5⟩ := X'.facts; obtain ⟨z0, z1, z2, z3, z4, z5⟩ := X2.facts)
                                  have P3 := P2.setSin (by rw [List.length_set, sinceAt_len]) i s.now
                                  rw [List.set_set] at P3
                                  have hT2 : OffT [2] (w'.setCell ⟨gs, i, none⟩ (.int .i64 (-1))) ((w'.setCell ⟨gs, i, none⟩ (.int .i64 (-1))).setCell ⟨gs, i, none⟩ (.int .i64 s.now)) := Off.mono (Off.setCell (Fr := fun k => k = gs) (Off.refl _ _) (a := ⟨gs, i, none⟩) rfl _) (by rintro k rfl; exact ⟨2, by simp, row_ty P2.sin rfl⟩)
                                  refine ⟨⟨i + 1, by simp, by omega, by rw [HS.out]; exact P3, X2.off hT2 (by decide), hT2.row (hTs.row A' (by decide)) (by decide), ?_, by simpa using Nat.le_trans hsz hB.size⟩, by simp [intOf]; omega⟩
                                  rw [HR.out, List.length_append, List.flatMap_append]
                                  exact hT2.row (hTs.row hU (by decide)) (by decide)
                                | false => as_aux_lemma =>
                                  rw [if_pos rfl] at hrg
                                  rw [hrg, List.append_nil] at hrt
                                  have hqu := hqu' rfl
                                  have HR := Lib.hid hrt
                                  have HQ := Lib.hid hqu
                                  clear hrt hqu hqu' htu' hst hrg hge
                                  go_wp2_with fail
                                  all_goals exact ⟨⟨i + 1, by simp, by omega, by rw [HQ.out]; exact P, X, A, by rw [HR.out]; exact U, hsz⟩, by simp [intOf]; omega⟩
                            · as_aux_lemma =>
                              obtain rfl : i = L.length := by omega
                              rw [sinceAt_all, hL'] at P
                              rw [List.take_length, hR] at U
                              have hEq := equal_same R (.slice va' R.length acap) _ (by omega) wr (Row.own alC_len A (by omega)) (Row.own alC_len U (by omega))
                              have hrs' : L'.map (·.rule) = rs := by
                                rw [← hL', ← hrs]; simp [Fi.look, look1_rule, Function.comp_def]
                              have hln : L'.length = L.length := by rw [← hL']; simp [Fi.look]
                              have Ul := ownN_form U
                              obtain ⟨uo, uc, hu, -, -⟩ := Ul
                              rw [hu] at hEq
                              subst hu
                              go_wp2_with fail
                              refine hEq.mono ?_
                              rintro e W9 ⟨rfl, hc⟩
                              replace P := P.keep hc
                              clear hc hEq
                              go_wp2_with fail
                              exact ⟨⟨k + 1, L', s.now, v, sv, rs, _, by simp, by omega, rfl, by omega, hrs', rfl, hok', P⟩, by simp [intOf]; omega⟩
                    · have hlk : ¬ ((k : Int) < (l.length : Int)) := by omega
                      have Psin := P.sin
                      rw [hsl] at Psin
                      obtain ⟨so, sc, hsv, -, -⟩ := ownN_form Psin
                      subst hsv
                      have hal := Below.al (Below.refl wr.heap.size wr) (.cells #[.int .i64 0] 3)
                      have C0 := NumAt.mk wr 3 (.int .i64 0) wr.heap.size rfl
                      have hNb : N < wr.heap.size := P.lft.lt
                      replace P := P.keep hal
                      replace Psin := ownN_keepAt Psin (fun j hj => hal.block j (World.ownsRow.lt Psin j hj).2)
                      have cB := P.box.cell
                      clear hal Pown
                      go_wp2_with fail
                      generalize wr.alloc (.cells #[.int .i64 0] 3) = W1 at *
                      obtain ⟨bn, hbn⟩ : ∃ bn, wr.heap.size = bn := ⟨_, rfl⟩
                      rw [hbn] at C0 hNb ⊢
                      go_loopw [27, 220] (fun oo ii W => ∃ i : Nat, ii = .int .i64 i ∧ i ≤ L.length ∧ oo = .int .i64 (cntOn (L.take i)) ∧ W = W1) (fun _ ii _ => L.length - (intOf ii).toNat)
                      case atStart => exact ⟨0, rfl, Nat.zero_le _, rfl, rfl⟩
                      case round =>
                        obtain ⟨i, rfl, hi, rfl, rfl⟩ := hrel
                        by_cases hil : i < L.length
                        · have hil' : (i : Int) < (L.length : Int) := by omega
                          have hxi : L[i]? = some L[i] := List.getElem?_eq_getElem hil
                          have hge := sinceOf_ge (hok _ (List.getElem_mem hil))
                          have hct := cntOn_take L i _ hxi
                          have hcl := cntOn_le (L.take i)
                          rw [List.length_take] at hcl
                          obtain ⟨gs, gc, hsv, -, -⟩ := ownN_row Psin (by omega)
                          obtain ⟨rfl, rfl⟩ : so = some ⟨gs, 0, none⟩ ∧ sc = gc := by simpa using hsv
                          obtain ⟨cS, -⟩ := ownN_cell Psin (j := i) (u := .int .i64 (sinceOf L[i])) (by rw [← hsn, List.getElem?_map, sinceL, List.getElem?_map, hxi]; rfl)
                          clear hsv
                          generalize L[i] = x at *
                          generalize sinceOf x = sx at *
                          cases hon : x.on with
                          | true => as_aux_lemma =>
                            rw [hon] at hge hct
                            have hso : 0 ≤ sx := of_decide_eq_true hge
                            rw [if_pos rfl] at hct
                            have HC := Lib.hid hct
                            clear hct hge
                            go_wp2_with fail
                            exact ⟨⟨i + 1, by simp, by omega, by rw [HC.out]; simp, by first | rfl | trivial⟩, by simp [intOf]; omega⟩
                          | false => as_aux_lemma =>
                            rw [hon] at hge hct
                            have hso : ¬ 0 ≤ sx := of_decide_eq_false hge
                            rw [if_neg (by decide), Nat.add_zero] at hct
                            have HC := Lib.hid hct
                            clear hct hge
                            go_wp2_with fail
                            exact ⟨⟨i + 1, by simp, by omega, by rw [HC.out]; try rfl, by first | rfl | trivial⟩, by simp [intOf]; omega⟩
                        · obtain rfl : i = L.length := by omega
                          rw [List.take_length]
                          go_wp2_with fail
                          have hal2 := Below.al (Below.refl wr.heap.size wr) (.cells #[.int .i64 (-1)] 3)
                          have D0 := NumAt.mk wr 3 (.int .i64 (-1)) wr.heap.size rfl
                          have hbb := C0.lt
                          replace P := P.keep hal2
                          replace C0 := C0.keep hal2
                          replace Psin := ownN_keepAt Psin (fun j hj => hal2.block j (World.ownsRow.lt Psin j hj).2)
                          clear hal2 cB
                          generalize wr.alloc (.cells #[.int .i64 (-1)] 3) = W5 at *
                          obtain ⟨bb, hbe⟩ : ∃ bb, wr.heap.size = bb := ⟨_, rfl⟩
                          rw [hbe] at D0 hbb ⊢
                          refine (on_any _ W5).mono ?_
                          rintro e w8 ⟨bx, rfl, hBx, -, hc⟩
                          replace P := P.keep hc
                          replace C0 := C0.keep hc
                          replace D0 := D0.keep hc
                          replace Psin := ownN_keepAt Psin (fun j hj => hc.block j (World.ownsRow.lt Psin j hj).2)
                          clear hc hbe hbn hi hil
                          have hNw := P.lft.lt
                          have hbxN : ¬ (N = bn ∨ N = bb) := by omega
                          have hbxs : ¬ (bs = bn ∨ bs = bb) := fun h => h.elim (Ty.ne P.box.ty C0.ty (by decide)) (Ty.ne P.box.ty D0.ty (by decide))
                          have hsinN : ∀ j, (Value.slice so L.length sc).ownBlock = some j → ¬ (j = bn ∨ j = bb) := fun j hj h => h.elim (Ty.ne (row_ty Psin hj) C0.ty (by decide)) (Ty.ne (row_ty Psin hj) D0.ty (by decide))
                          go_wp2_with fail
                          refine wp_rangeFunc_N (gf := 44) (lb := #[.pointer (some ⟨bx, 0, none⟩)]) rfl (enters_of Try.func44 (by kernel_rfl) rfl)
                            (on_seq 8 (by omega) b v L last (by omega) bx (fun j => j = bn ∨ j = bb) _ P.watch hBx) (fun j hj => by rcases hj with rfl | rfl; exact C0.lt; exact D0.lt) (fun _ => rfl)
                            (RI N w w8 bn bb left L) (fun c k W => c = .exit 11 ∧ RX N w w8 bn bb left L k W)
                            (fun _ A B hs hb => hs.keep hb (Nat.le_of_lt hNw) C0.lt D0.lt) (fun _ _ A B hs hb => ⟨hs.1, hs.2.keep hb (Nat.le_of_lt hNw) C0.lt⟩) ⟨Off.refl _ _, P.bel, C0, .inr rfl, 0, -1, Nat.zero_le _, by rw [onsL_from]; rfl, D0, by omega⟩ ?a1 ?assign ?body ?done ?stop
                          case assign =>
                            intro l' k' W K hK
                            have HK := Lib.hid hK
                            clear hK
                            simp only [onEnc]
                            gi_wp2
                            exact HK.out
                          case body =>
                            rintro l' k' W hkN R hzW
                            obtain ⟨i', p, hi', hdr, hp0, hpi⟩ := R.at'
                            rcases ons_next (L.drop i') i' with ⟨h1, -⟩ | ⟨m, x, hm1, hm2, hm3, hm4⟩
                            · exfalso
                              rw [h1] at hdr
                              have := congrArg List.length hdr
                              rw [List.length_drop] at this
                              simp only [List.length_nil] at this
                              omega
                            · have hlm : i' + m < L.length := by
                                have := (List.getElem?_eq_some_iff.1 hm1).1
                                rw [List.length_drop] at this; omega
                              have hgx : L[i' + m]? = some x := by rw [← hm1, List.getElem?_drop]
                              rw [hm2, List.drop_eq_getElem_cons hkN] at hdr
                              obtain ⟨hRj, hdr'⟩ := List.cons.inj hdr
                              have e0 : ((onsL L)[k']?.getD (0, 0)).1 = ((i' + m : Nat) : Int) := by rw [List.getElem?_eq_getElem hkN, hRj]; rfl
                              have e1 : ((onsL L)[k']?.getD (0, 0)).2 = x.since := by rw [List.getElem?_eq_getElem hkN, hRj]; rfl
                              rw [List.drop_drop, show i' + (m + 1) = i' + m + 1 by omega] at hdr'
                              obtain ⟨gs, gc, hsv, -, -⟩ := ownN_row Psin (by omega)
                              obtain ⟨rfl, rfl⟩ : so = some ⟨gs, 0, none⟩ ∧ sc = gc := by simpa using hsv
                              obtain ⟨cS, -⟩ := ownN_cell (own_off Psin R.off hsinN) (j := i' + m) (u := .int .i64 x.since) (by rw [← hsn, List.getElem?_map, sinceL, List.getElem?_map, hgx]; simp only [Option.map_some, sinceOf_on hm3])
                              have cB := (R.off.num P.box hbxs).cell
                              have cL := (R.off.num P.lft hbxN).cell
                              have cN := R.num.cell
                              have fN := R.num.froz
                              have cP := hp0.cell
                              have fP := hp0.froz
                              have hne : bn ≠ bb := by omega
                              have hkl := cntOn_le L
                              rw [← cntOn_ons] at hkl
                              clear hdr hRj hm1 hm2 hm3 hm4 hgx hsv
                              rw [e0, e1]
                              clear e0 e1
                              have hpt : ¬ (((i' + m : Nat) : Int) ≤ p) := by omega
                              generalize i' + m = t at *
                              have hnl : ¬ ((L.length : Int) ≤ (t : Int)) := by omega
                              have htl : (t : Int) < (L.length : Int) := by omega
                              have HD := Lib.hid hdr'
                              clear hdr'
                              have ho1 : Off (fun j => j = bn ∨ j = bb) W (W.setCell ⟨bb, 0, none⟩ (.int .i64 t)) := Off.setCell (Fr := fun j => j = bn ∨ j = bb) (Off.refl _ _) (a := ⟨bb, 0, none⟩) (.inr rfl) _
                              have o1 : Off (fun j => j = bb) W (W.setCell ⟨bb, 0, none⟩ (.int .i64 t)) := Off.setCell (Fr := fun j => j = bb) (Off.refl _ _) (a := ⟨bb, 0, none⟩) rfl _
                              have N1 := o1.num R.num hne
                              have cN1 := N1.cell
                              have fN1 := N1.froz
                              have cL1 := (ho1.num (R.off.num P.lft hbxN) hbxN).cell
                              by_cases hle : left ≤ (k' : Int) + 1
                              · as_aux_lemma =>
                                gi_wp2
                                have ho2 : Off (fun j => j = bn ∨ j = bb) (W.setCell ⟨bb, 0, none⟩ (.int .i64 t)) ((W.setCell ⟨bb, 0, none⟩ (.int .i64 t)).setCell ⟨bn, 0, none⟩ (.int .i64 ((k' : Int) + 1))) := Off.setCell (Fr := fun j => j = bn ∨ j = bb) (Off.refl _ _) (a := ⟨bn, 0, none⟩) (.inl rfl) _
                                have o2 : Off (fun j => j = bn) (W.setCell ⟨bb, 0, none⟩ (.int .i64 t)) ((W.setCell ⟨bb, 0, none⟩ (.int .i64 t)).setCell ⟨bn, 0, none⟩ (.int .i64 ((k' : Int) + 1))) := Off.setCell (Fr := fun j => j = bn) (Off.refl _ _) (a := ⟨bn, 0, none⟩) rfl _
                                have hoo := ho1.trans ho2
                                have hbw := (R.bel.setCell (p := ⟨bb, 0, none⟩) (by show N ≤ bb; omega) (.int .i64 t)).setCell (p := ⟨bn, 0, none⟩) (by show N ≤ bn; omega) (.int .i64 ((k' : Int) + 1))
                                have N2 := N1.set (.int .i64 ((k' : Int) + 1))
                                refine ⟨hoo, rfl, R.off.trans hoo, hbw, by simpa using N2, ?_, by omega⟩
                                have := R.go
                                rw [Int.max_def]
                                split <;> omega
                              · as_aux_lemma =>
                                gi_wp2
                                have ho2 : Off (fun j => j = bn ∨ j = bb) (W.setCell ⟨bb, 0, none⟩ (.int .i64 t)) ((W.setCell ⟨bb, 0, none⟩ (.int .i64 t)).setCell ⟨bn, 0, none⟩ (.int .i64 ((k' : Int) + 1))) := Off.setCell (Fr := fun j => j = bn ∨ j = bb) (Off.refl _ _) (a := ⟨bn, 0, none⟩) (.inl rfl) _
                                have o2 : Off (fun j => j = bn) (W.setCell ⟨bb, 0, none⟩ (.int .i64 t)) ((W.setCell ⟨bb, 0, none⟩ (.int .i64 t)).setCell ⟨bn, 0, none⟩ (.int .i64 ((k' : Int) + 1))) := Off.setCell (Fr := fun j => j = bn) (Off.refl _ _) (a := ⟨bn, 0, none⟩) rfl _
                                have hoo := ho1.trans ho2
                                have hbw := (R.bel.setCell (p := ⟨bb, 0, none⟩) (by show N ≤ bb; omega) (.int .i64 t)).setCell (p := ⟨bn, 0, none⟩) (by show N ≤ bn; omega) (.int .i64 ((k' : Int) + 1))
                                have N2 := N1.set (.int .i64 ((k' : Int) + 1))
                                exact ⟨hoo, R.off.trans hoo, hbw, by simpa using N2, .inl (by omega), t + 1, t, by omega, HD.out, o2.num (hp0.set _) (by omega), by omega⟩
                          case done =>
                            rintro D W hD R hK
                            have hmin : (((onsL L).length : Nat) : Int) = min ((cntOn L : Nat) : Int) (max left 1) := by
                              have := R.go
                              have h2 := cntOn_ons L
                              rw [Int.min_def, Int.max_def]
                              split <;> split <;> omega
                            obtain ⟨nf, hnf⟩ : ∃ nf, (onsL L).length = nf := ⟨_, rfl⟩
                            have C9 := R.num
                            have hoff := R.off
                            have hbel := R.bel
                            rw [hnf] at hmin C9
                            clear R
                            have hT3 : OffT [3] w8 W := Off.mono hoff (by rintro j (rfl | rfl); exact ⟨3, by simp, C0.ty⟩; exact ⟨3, by simp, D0.ty⟩)
                            have P9 : PI N w left b v (.slice oo L.length oc) bs (.slice so L.length sc) L last rs sn W := ⟨hoff.num P.lft hbxN, hT3.num P.res (by decide), hT3.wv P.watch (by decide) (by decide), hT3.row P.own (by decide), hT3.num P.box (by decide), hT3.row P.sin (by decide), P.hb, P.hv, P.hbs, hbel⟩
                            have hND : N + 1 < D := by have := P.res.lt; omega
                            clear hT3 hoff hbel C0 D0 P Psin hBx hD hbxs hsinN hbxN hNw
                            dsimp only
                            generalize cntOn L = cn at *
                            have hmn : (if (if left < 1 then (1 : Int) else left) < (cn : Int) then (if left < 1 then (1 : Int) else left) else (cn : Int)) = (nf : Int) := by
                              rw [hmin, Int.min_def, Int.max_def]
                              (repeat' split) <;> omega
                            clear hmin
                            by_cases hm : L.length = 0
                            · as_aux_lemma =>
                              rw [hm] at P9 ⊢
                              go_wp2_with fail
                              refine (rule_bad b v L last (-1) (by omega) (.inl (by decide)) W P9.watch).mono ?_
                              rintro e W10 ⟨rfl, hc⟩
                              replace P9 := P9.keep hc
                              replace C9 := C9.keep hc
                              replace hK := (hc.block D (Array.getElem?_eq_some_iff.1 hK).1).trans hK
                              clear hc
                              unfold ruleV
                              go_wp2_with fail
                              have hc := Below.al (Below.refl W10.heap.size W10) (.cells #[.int .u8 0, .int .u64 0, .int .i64 0] 34)
                              replace P9 := P9.keep hc
                              replace C9 := C9.keep hc
                              replace hK := (hc.block D (Array.getElem?_eq_some_iff.1 hK).1).trans hK
                              clear hc
                              refine (rule_bad b v L last 0 (by omega) (.inr ⟨by decide, by omega⟩) _ P9.watch).mono ?_
                              rintro e W11 ⟨rfl, hc⟩
                              replace P9 := P9.keep hc
                              replace C9 := C9.keep hc
                              replace hK := (hc.block D (Array.getElem?_eq_some_iff.1 hK).1).trans hK
                              clear hc
                              unfold ruleV
                              go_upto_region 76 with fail
                              have hc := Below.al (Below.refl W11.heap.size W11) (.cells #[.int .u8 0, .int .u64 0, .int .i64 0] 34)
                              replace P9 := P9.keep hc
                              replace C9 := C9.keep hc
                              replace hK := (hc.block D (Array.getElem?_eq_some_iff.1 hK).1).trans hK
                              clear hc
                              generalize W11.alloc (.cells #[.int .u8 0, .int .u64 0, .int .i64 0] 34) = W12 at *
                              refine wp_region_held_drew (S := fun w' => OffT [4] W12 w') (by kernel_rfl) (Off.refl _ W12).drew (fun _ => ?_)
                              have s0 : OffT [4] W12 W12.drew := (Off.refl _ W12).drew
                              have e0 := fun w' (h : OffT [4] W12 w') => (h.num C9 (by decide)).cell
                              have e1 := fun w' (h : OffT [4] W12 w') => (h.num P9.lft (by decide)).cell
                              first
                                | (refine wpAnyH_take (i := 0) (oi := { dst := _, op := _, type := _, pos := _, after := _, guard := _ }) (v := ?v1e0) rfl (by kernel_rfl) (by kernel_rfl) (by kernel_rfl) (fun _ _ _ h => leaves_put 6 rfl (by decide) h) (Or.inl ⟨by rfl, ?y1e0⟩) (by assumption) ?r1e0; (case y1e0 => intro w hSw; go_simp <;> with_reducible rfl); simp only [Act.put, List.setIfInBounds_toArray, List.set_cons_zero, List.set_cons_succ])
                                | (refine wpAnyH_take (i := 0) (oi := { dst := _, op := _, type := _, pos := _, after := _, guard := _ }) (v := undef) rfl (by kernel_rfl) (by kernel_rfl) (by kernel_rfl) (fun _ _ _ h => leaves_put 6 rfl (by decide) h) (Or.inr ⟨by rfl, rfl⟩) (by assumption) ?r1e0; simp only [Act.put, List.setIfInBounds_toArray, List.set_cons_zero, List.set_cons_succ])
                              first
                                | (refine wpAnyH_take (i := 1) (oi := { dst := _, op := _, type := _, pos := _, after := _, guard := _ }) (v := ?v1e1) rfl (by kernel_rfl) (by kernel_rfl) (by kernel_rfl) (fun _ _ _ h => leaves_put 6 rfl (by decide) h) (Or.inl ⟨by rfl, ?y1e1⟩) (by assumption) ?r1e1; (case y1e1 => intro w hSw; go_simp <;> with_reducible rfl); simp only [Act.put, List.setIfInBounds_toArray, List.set_cons_zero, List.set_cons_succ])
                                | (refine wpAnyH_take (i := 1) (oi := { dst := _, op := _, type := _, pos := _, after := _, guard := _ }) (v := undef) rfl (by kernel_rfl) (by kernel_rfl) (by kernel_rfl) (fun _ _ _ h => leaves_put 6 rfl (by decide) h) (Or.inr ⟨by rfl, rfl⟩) (by assumption) ?r1e1; simp only [Act.put, List.setIfInBounds_toArray, List.set_cons_zero, List.set_cons_succ])
                              first
                                | (refine wpAnyH_take (i := 2) (oi := { dst := _, op := _, type := _, pos := _, after := _, guard := _ }) (v := ?v1e2) rfl (by kernel_rfl) (by kernel_rfl) (by kernel_rfl) (fun _ _ _ h => leaves_put 6 rfl (by decide) h) (Or.inl ⟨by rfl, ?y1e2⟩) (by assumption) ?r1e2; (case y1e2 => intro w hSw; go_simp <;> with_reducible rfl); simp only [Act.put, List.setIfInBounds_toArray, List.set_cons_zero, List.set_cons_succ])
                                | (refine wpAnyH_take (i := 2) (oi := { dst := _, op := _, type := _, pos := _, after := _, guard := _ }) (v := undef) rfl (by kernel_rfl) (by kernel_rfl) (by kernel_rfl) (fun _ _ _ h => leaves_put 6 rfl (by decide) h) (Or.inr ⟨by rfl, rfl⟩) (by assumption) ?r1e2; simp only [Act.put, List.setIfInBounds_toArray, List.set_cons_zero, List.set_cons_succ])
                              first
                                | (refine wpAnyH_take (i := 3) (oi := { dst := _, op := _, type := _, pos := _, after := _, guard := _ }) (v := ?v1e3) rfl (by kernel_rfl) (by kernel_rfl) (by kernel_rfl) (fun _ _ _ h => leaves_put 6 rfl (by decide) h) (Or.inl ⟨by rfl, ?y1e3⟩) (by assumption) ?r1e3; (case y1e3 => intro w hSw; go_simp <;> with_reducible rfl); simp only [Act.put, List.setIfInBounds_toArray, List.set_cons_zero, List.set_cons_succ])
                                | (refine wpAnyH_take (i := 3) (oi := { dst := _, op := _, type := _, pos := _, after := _, guard := _ }) (v := undef) rfl (by kernel_rfl) (by kernel_rfl) (by kernel_rfl) (fun _ _ _ h => leaves_put 6 rfl (by decide) h) (Or.inr ⟨by rfl, rfl⟩) (by assumption) ?r1e3; simp only [Act.put, List.setIfInBounds_toArray, List.set_cons_zero, List.set_cons_succ])
                              first
                                | (refine wpAnyH_take (i := 4) (oi := { dst := _, op := _, type := _, pos := _, after := _, guard := _ }) (v := ?v1e4) rfl (by kernel_rfl) (by kernel_rfl) (by kernel_rfl) (fun _ _ _ h => leaves_put 6 rfl (by decide) h) (Or.inl ⟨by rfl, ?y1e4⟩) (by assumption) ?r1e4; (case y1e4 => intro w hSw; go_simp <;> with_reducible rfl); simp only [Act.put, List.setIfInBounds_toArray, List.set_cons_zero, List.set_cons_succ])
                                | (refine wpAnyH_take (i := 4) (oi := { dst := _, op := _, type := _, pos := _, after := _, guard := _ }) (v := undef) rfl (by kernel_rfl) (by kernel_rfl) (by kernel_rfl) (fun _ _ _ h => leaves_put 6 rfl (by decide) h) (Or.inr ⟨by rfl, rfl⟩) (by assumption) ?r1e4; simp only [Act.put, List.setIfInBounds_toArray, List.set_cons_zero, List.set_cons_succ])
                              first
                                | (refine wpAnyH_take (i := 5) (oi := { dst := _, op := _, type := _, pos := _, after := _, guard := _ }) (v := ?v1e5) rfl (by kernel_rfl) (by kernel_rfl) (by kernel_rfl) (fun _ _ _ h => leaves_put 6 rfl (by decide) h) (Or.inl ⟨by rfl, ?y1e5⟩) (by assumption) ?r1e5; (case y1e5 => intro w hSw; go_simp <;> with_reducible rfl); simp only [Act.put, List.setIfInBounds_toArray, List.set_cons_zero, List.set_cons_succ])
                                | (refine wpAnyH_take (i := 5) (oi := { dst := _, op := _, type := _, pos := _, after := _, guard := _ }) (v := undef) rfl (by kernel_rfl) (by kernel_rfl) (by kernel_rfl) (fun _ _ _ h => leaves_put 6 rfl (by decide) h) (Or.inr ⟨by rfl, rfl⟩) (by assumption) ?r1e5; simp only [Act.put, List.setIfInBounds_toArray, List.set_cons_zero, List.set_cons_succ])
                              first
                                | (refine wpAnyH_take (i := 6) (oi := { dst := _, op := _, type := _, pos := _, after := _, guard := _ }) (v := ?v1e6) rfl (by kernel_rfl) (by kernel_rfl) (by kernel_rfl) (fun _ _ _ h => leaves_put 6 rfl (by decide) h) (Or.inl ⟨by rfl, ?y1e6⟩) (by assumption) ?r1e6; (case y1e6 => intro w hSw; go_simp <;> with_reducible rfl); simp only [Act.put, List.setIfInBounds_toArray, List.set_cons_zero, List.set_cons_succ])
                                | (refine wpAnyH_take (i := 6) (oi := { dst := _, op := _, type := _, pos := _, after := _, guard := _ }) (v := undef) rfl (by kernel_rfl) (by kernel_rfl) (by kernel_rfl) (fun _ _ _ h => leaves_put 6 rfl (by decide) h) (Or.inr ⟨by rfl, rfl⟩) (by assumption) ?r1e6; simp only [Act.put, List.setIfInBounds_toArray, List.set_cons_zero, List.set_cons_succ])
                              first
                                | (refine wpAnyH_take (i := 7) (oi := { dst := _, op := _, type := _, pos := _, after := _, guard := _ }) (v := ?v1e7) rfl (by kernel_rfl) (by kernel_rfl) (by kernel_rfl) (fun _ _ _ h => leaves_put 6 rfl (by decide) h) (Or.inl ⟨by rfl, ?y1e7⟩) (by assumption) ?r1e7; (case y1e7 => intro w hSw; go_simp <;> with_reducible rfl); simp only [Act.put, List.setIfInBounds_toArray, List.set_cons_zero, List.set_cons_succ])
                                | (refine wpAnyH_take (i := 7) (oi := { dst := _, op := _, type := _, pos := _, after := _, guard := _ }) (v := undef) rfl (by kernel_rfl) (by kernel_rfl) (by kernel_rfl) (fun _ _ _ h => leaves_put 6 rfl (by decide) h) (Or.inr ⟨by rfl, rfl⟩) (by assumption) ?r1e7; simp only [Act.put, List.setIfInBounds_toArray, List.set_cons_zero, List.set_cons_succ])
                              first
                                | (refine wpAnyH_take (i := 8) (oi := { dst := _, op := _, type := _, pos := _, after := _, guard := _ }) (v := ?v1e8) rfl (by kernel_rfl) (by kernel_rfl) (by kernel_rfl) (fun _ _ _ h => leaves_put 6 rfl (by decide) h) (Or.inl ⟨by rfl, ?y1e8⟩) (by assumption) ?r1e8; (case y1e8 => intro w hSw; go_simp <;> with_reducible rfl); simp only [Act.put, List.setIfInBounds_toArray, List.set_cons_zero, List.set_cons_succ])
                                | (refine wpAnyH_take (i := 8) (oi := { dst := _, op := _, type := _, pos := _, after := _, guard := _ }) (v := undef) rfl (by kernel_rfl) (by kernel_rfl) (by kernel_rfl) (fun _ _ _ h => leaves_put 6 rfl (by decide) h) (Or.inr ⟨by rfl, rfl⟩) (by assumption) ?r1e8; simp only [Act.put, List.setIfInBounds_toArray, List.set_cons_zero, List.set_cons_succ])
                              first
                                | (refine wpAnyH_take (i := 9) (oi := { dst := _, op := _, type := _, pos := _, after := _, guard := _ }) (v := ?v1e9) rfl (by kernel_rfl) (by kernel_rfl) (by kernel_rfl) (fun _ _ _ h => leaves_put 6 rfl (by decide) h) (Or.inl ⟨by rfl, ?y1e9⟩) (by assumption) ?r1e9; (case y1e9 => intro w hSw; go_simp <;> with_reducible rfl); simp only [Act.put, List.setIfInBounds_toArray, List.set_cons_zero, List.set_cons_succ])
                                | (refine wpAnyH_take (i := 9) (oi := { dst := _, op := _, type := _, pos := _, after := _, guard := _ }) (v := undef) rfl (by kernel_rfl) (by kernel_rfl) (by kernel_rfl) (fun _ _ _ h => leaves_put 6 rfl (by decide) h) (Or.inr ⟨by rfl, rfl⟩) (by assumption) ?r1e9; simp only [Act.put, List.setIfInBounds_toArray, List.set_cons_zero, List.set_cons_succ])
                              first
                                | (refine wpAnyH_take (i := 10) (oi := { dst := _, op := _, type := _, pos := _, after := _, guard := _ }) (v := ?v1e10) rfl (by kernel_rfl) (by kernel_rfl) (by kernel_rfl) (fun _ _ _ h => leaves_put 6 rfl (by decide) h) (Or.inl ⟨by rfl, ?y1e10⟩) (by assumption) ?r1e10; (case y1e10 => intro w hSw; go_simp <;> with_reducible rfl); simp only [Act.put, List.setIfInBounds_toArray, List.set_cons_zero, List.set_cons_succ])
                                | (refine wpAnyH_take (i := 10) (oi := { dst := _, op := _, type := _, pos := _, after := _, guard := _ }) (v := undef) rfl (by kernel_rfl) (by kernel_rfl) (by kernel_rfl) (fun _ _ _ h => leaves_put 6 rfl (by decide) h) (Or.inr ⟨by rfl, rfl⟩) (by assumption) ?r1e10; simp only [Act.put, List.setIfInBounds_toArray, List.set_cons_zero, List.set_cons_succ])
                              first
                                | (refine wpAnyH_take (i := 11) (oi := { dst := _, op := _, type := _, pos := _, after := _, guard := _ }) (v := ?v1e11) rfl (by kernel_rfl) (by kernel_rfl) (by kernel_rfl) (fun _ _ _ h => leaves_put 6 rfl (by decide) h) (Or.inl ⟨by rfl, ?y1e11⟩) (by assumption) ?r1e11; (case y1e11 => intro w hSw; go_simp <;> with_reducible rfl); simp only [Act.put, List.setIfInBounds_toArray, List.set_cons_zero, List.set_cons_succ])
                                | (refine wpAnyH_take (i := 11) (oi := { dst := _, op := _, type := _, pos := _, after := _, guard := _ }) (v := undef) rfl (by kernel_rfl) (by kernel_rfl) (by kernel_rfl) (fun _ _ _ h => leaves_put 6 rfl (by decide) h) (Or.inr ⟨by rfl, rfl⟩) (by assumption) ?r1e11; simp only [Act.put, List.setIfInBounds_toArray, List.set_cons_zero, List.set_cons_succ])
                              first
                                | (refine wpAnyH_take (i := 12) (oi := { dst := _, op := _, type := _, pos := _, after := _, guard := _ }) (v := ?v1e12) rfl (by kernel_rfl) (by kernel_rfl) (by kernel_rfl) (fun _ _ _ h => leaves_put 6 rfl (by decide) h) (Or.inl ⟨by rfl, ?y1e12⟩) (by assumption) ?r1e12; (case y1e12 => intro w hSw; go_simp <;> with_reducible rfl); simp only [Act.put, List.setIfInBounds_toArray, List.set_cons_zero, List.set_cons_succ])
                                | (refine wpAnyH_take (i := 12) (oi := { dst := _, op := _, type := _, pos := _, after := _, guard := _ }) (v := undef) rfl (by kernel_rfl) (by kernel_rfl) (by kernel_rfl) (fun _ _ _ h => leaves_put 6 rfl (by decide) h) (Or.inr ⟨by rfl, rfl⟩) (by assumption) ?r1e12; simp only [Act.put, List.setIfInBounds_toArray, List.set_cons_zero, List.set_cons_succ])
                              first
                                | (refine wpAnyH_take (i := 13) (oi := { dst := _, op := _, type := _, pos := _, after := _, guard := _ }) (v := ?v1e13) rfl (by kernel_rfl) (by kernel_rfl) (by kernel_rfl) (fun _ _ _ h => leaves_put 6 rfl (by decide) h) (Or.inl ⟨by rfl, ?y1e13⟩) (by assumption) ?r1e13; (case y1e13 => intro w hSw; go_simp <;> with_reducible rfl); simp only [Act.put, List.setIfInBounds_toArray, List.set_cons_zero, List.set_cons_succ])
                                | (refine wpAnyH_take (i := 13) (oi := { dst := _, op := _, type := _, pos := _, after := _, guard := _ }) (v := undef) rfl (by kernel_rfl) (by kernel_rfl) (by kernel_rfl) (fun _ _ _ h => leaves_put 6 rfl (by decide) h) (Or.inr ⟨by rfl, rfl⟩) (by assumption) ?r1e13; simp only [Act.put, List.setIfInBounds_toArray, List.set_cons_zero, List.set_cons_succ])
                              first
                                | (refine wpAnyH_take (i := 14) (oi := { dst := _, op := _, type := _, pos := _, after := _, guard := _ }) (v := ?v1e14) rfl (by kernel_rfl) (by kernel_rfl) (by kernel_rfl) (fun _ _ _ h => leaves_put 6 rfl (by decide) h) (Or.inl ⟨by rfl, ?y1e14⟩) (by assumption) ?r1e14; (case y1e14 => intro w hSw; go_simp <;> with_reducible rfl); simp only [Act.put, List.setIfInBounds_toArray, List.set_cons_zero, List.set_cons_succ])
                                | (refine wpAnyH_take (i := 14) (oi := { dst := _, op := _, type := _, pos := _, after := _, guard := _ }) (v := undef) rfl (by kernel_rfl) (by kernel_rfl) (by kernel_rfl) (fun _ _ _ h => leaves_put 6 rfl (by decide) h) (Or.inr ⟨by rfl, rfl⟩) (by assumption) ?r1e14; simp only [Act.put, List.setIfInBounds_toArray, List.set_cons_zero, List.set_cons_succ])
                              first
                                | (refine wpAnyH_take (i := 15) (oi := { dst := _, op := _, type := _, pos := _, after := _, guard := _ }) (v := ?v1e15) rfl (by kernel_rfl) (by kernel_rfl) (by kernel_rfl) (fun _ _ _ h => leaves_put 6 rfl (by decide) h) (Or.inl ⟨by rfl, ?y1e15⟩) (by assumption) ?r1e15; (case y1e15 => intro w hSw; go_simp <;> with_reducible rfl); simp only [Act.put, List.setIfInBounds_toArray, List.set_cons_zero, List.set_cons_succ])
                                | (refine wpAnyH_take (i := 15) (oi := { dst := _, op := _, type := _, pos := _, after := _, guard := _ }) (v := undef) rfl (by kernel_rfl) (by kernel_rfl) (by kernel_rfl) (fun _ _ _ h => leaves_put 6 rfl (by decide) h) (Or.inr ⟨by rfl, rfl⟩) (by assumption) ?r1e15; simp only [Act.put, List.setIfInBounds_toArray, List.set_cons_zero, List.set_cons_succ])
                              first
                                | (refine wpAnyH_take (i := 16) (oi := { dst := _, op := _, type := _, pos := _, after := _, guard := _ }) (v := ?v1e16) rfl (by kernel_rfl) (by kernel_rfl) (by kernel_rfl) (fun _ _ _ h => leaves_put 6 rfl (by decide) h) (Or.inl ⟨by rfl, ?y1e16⟩) (by assumption) ?r1e16; (case y1e16 => intro w hSw; go_simp <;> with_reducible rfl); simp only [Act.put, List.setIfInBounds_toArray, List.set_cons_zero, List.set_cons_succ])
                                | (refine wpAnyH_take (i := 16) (oi := { dst := _, op := _, type := _, pos := _, after := _, guard := _ }) (v := undef) rfl (by kernel_rfl) (by kernel_rfl) (by kernel_rfl) (fun _ _ _ h => leaves_put 6 rfl (by decide) h) (Or.inr ⟨by rfl, rfl⟩) (by assumption) ?r1e16; simp only [Act.put, List.setIfInBounds_toArray, List.set_cons_zero, List.set_cons_succ])
                              first
                                | (refine wpAnyH_take (i := 17) (oi := { dst := _, op := _, type := _, pos := _, after := _, guard := _ }) (v := ?v1e17) rfl (by kernel_rfl) (by kernel_rfl) (by kernel_rfl) (fun _ _ _ h => leaves_put 6 rfl (by decide) h) (Or.inl ⟨by rfl, ?y1e17⟩) (by assumption) ?r1e17; (case y1e17 => intro w hSw; go_simp <;> with_reducible rfl); simp only [Act.put, List.setIfInBounds_toArray, List.set_cons_zero, List.set_cons_succ])
                                | (refine wpAnyH_take (i := 17) (oi := { dst := _, op := _, type := _, pos := _, after := _, guard := _ }) (v := undef) rfl (by kernel_rfl) (by kernel_rfl) (by kernel_rfl) (fun _ _ _ h => leaves_put 6 rfl (by decide) h) (Or.inr ⟨by rfl, rfl⟩) (by assumption) ?r1e17; simp only [Act.put, List.setIfInBounds_toArray, List.set_cons_zero, List.set_cons_succ])
                              first
                                | (refine wpAnyH_take (i := 18) (oi := { dst := _, op := _, type := _, pos := _, after := _, guard := _ }) (v := ?v1e18) rfl (by kernel_rfl) (by kernel_rfl) (by kernel_rfl) (fun _ _ _ h => leaves_put 6 rfl (by decide) h) (Or.inl ⟨by rfl, ?y1e18⟩) (by assumption) ?r1e18; (case y1e18 => intro w hSw; go_simp <;> with_reducible rfl); simp only [Act.put, List.setIfInBounds_toArray, List.set_cons_zero, List.set_cons_succ])
                                | (refine wpAnyH_take (i := 18) (oi := { dst := _, op := _, type := _, pos := _, after := _, guard := _ }) (v := undef) rfl (by kernel_rfl) (by kernel_rfl) (by kernel_rfl) (fun _ _ _ h => leaves_put 6 rfl (by decide) h) (Or.inr ⟨by rfl, rfl⟩) (by assumption) ?r1e18; simp only [Act.put, List.setIfInBounds_toArray, List.set_cons_zero, List.set_cons_succ])
                              first
                                | (refine wpAnyH_take (i := 19) (oi := { dst := _, op := _, type := _, pos := _, after := _, guard := _ }) (v := ?v1e19) rfl (by kernel_rfl) (by kernel_rfl) (by kernel_rfl) (fun _ _ _ h => leaves_put 6 rfl (by decide) h) (Or.inl ⟨by rfl, ?y1e19⟩) (by assumption) ?r1e19; (case y1e19 => intro w hSw; go_simp <;> with_reducible rfl); simp only [Act.put, List.setIfInBounds_toArray, List.set_cons_zero, List.set_cons_succ])
                                | (refine wpAnyH_take (i := 19) (oi := { dst := _, op := _, type := _, pos := _, after := _, guard := _ }) (v := undef) rfl (by kernel_rfl) (by kernel_rfl) (by kernel_rfl) (fun _ _ _ h => leaves_put 6 rfl (by decide) h) (Or.inr ⟨by rfl, rfl⟩) (by assumption) ?r1e19; simp only [Act.put, List.setIfInBounds_toArray, List.set_cons_zero, List.set_cons_succ])
                              first
                                | (refine wpAnyH_take (i := 20) (oi := { dst := _, op := _, type := _, pos := _, after := _, guard := _ }) (v := ?v1e20) rfl (by kernel_rfl) (by kernel_rfl) (by kernel_rfl) (fun _ _ _ h => leaves_put 6 rfl (by decide) h) (Or.inl ⟨by rfl, ?y1e20⟩) (by assumption) ?r1e20; (case y1e20 => intro w hSw; go_simp <;> with_reducible rfl); simp only [Act.put, List.setIfInBounds_toArray, List.set_cons_zero, List.set_cons_succ])
                                | (refine wpAnyH_take (i := 20) (oi := { dst := _, op := _, type := _, pos := _, after := _, guard := _ }) (v := undef) rfl (by kernel_rfl) (by kernel_rfl) (by kernel_rfl) (fun _ _ _ h => leaves_put 6 rfl (by decide) h) (Or.inr ⟨by rfl, rfl⟩) (by assumption) ?r1e20; simp only [Act.put, List.setIfInBounds_toArray, List.set_cons_zero, List.set_cons_succ])
                              first
                                | (refine wpAnyH_take (i := 21) (oi := { dst := _, op := _, type := _, pos := _, after := _, guard := _ }) (v := ?v1e21) rfl (by kernel_rfl) (by kernel_rfl) (by kernel_rfl) (fun _ _ _ h => leaves_put 6 rfl (by decide) h) (Or.inl ⟨by rfl, ?y1e21⟩) (by assumption) ?r1e21; (case y1e21 => intro w hSw; go_simp <;> with_reducible rfl); simp only [Act.put, List.setIfInBounds_toArray, List.set_cons_zero, List.set_cons_succ])
                                | (refine wpAnyH_take (i := 21) (oi := { dst := _, op := _, type := _, pos := _, after := _, guard := _ }) (v := undef) rfl (by kernel_rfl) (by kernel_rfl) (by kernel_rfl) (fun _ _ _ h => leaves_put 6 rfl (by decide) h) (Or.inr ⟨by rfl, rfl⟩) (by assumption) ?r1e21; simp only [Act.put, List.setIfInBounds_toArray, List.set_cons_zero, List.set_cons_succ])
                              first
                                | (refine wpAnyH_take (i := 22) (oi := { dst := _, op := _, type := _, pos := _, after := _, guard := _ }) (v := ?v1e22) rfl (by kernel_rfl) (by kernel_rfl) (by kernel_rfl) (fun _ _ _ h => leaves_put 6 rfl (by decide) h) (Or.inl ⟨by rfl, ?y1e22⟩) (by assumption) ?r1e22; (case y1e22 => intro w hSw; go_simp <;> with_reducible rfl); simp only [Act.put, List.setIfInBounds_toArray, List.set_cons_zero, List.set_cons_succ])
                                | (refine wpAnyH_take (i := 22) (oi := { dst := _, op := _, type := _, pos := _, after := _, guard := _ }) (v := undef) rfl (by kernel_rfl) (by kernel_rfl) (by kernel_rfl) (fun _ _ _ h => leaves_put 6 rfl (by decide) h) (Or.inr ⟨by rfl, rfl⟩) (by assumption) ?r1e22; simp only [Act.put, List.setIfInBounds_toArray, List.set_cons_zero, List.set_cons_succ])
                              first
                                | (refine wpAnyH_take (i := 23) (oi := { dst := _, op := _, type := _, pos := _, after := _, guard := _ }) (v := ?v1e23) rfl (by kernel_rfl) (by kernel_rfl) (by kernel_rfl) (fun _ _ _ h => leaves_put 6 rfl (by decide) h) (Or.inl ⟨by rfl, ?y1e23⟩) (by assumption) ?r1e23; (case y1e23 => intro w hSw; go_simp <;> with_reducible rfl); simp only [Act.put, List.setIfInBounds_toArray, List.set_cons_zero, List.set_cons_succ])
                                | (refine wpAnyH_take (i := 23) (oi := { dst := _, op := _, type := _, pos := _, after := _, guard := _ }) (v := undef) rfl (by kernel_rfl) (by kernel_rfl) (by kernel_rfl) (fun _ _ _ h => leaves_put 6 rfl (by decide) h) (Or.inr ⟨by rfl, rfl⟩) (by assumption) ?r1e23; simp only [Act.put, List.setIfInBounds_toArray, List.set_cons_zero, List.set_cons_succ])
                              first
                                | (refine wpAnyH_take (i := 24) (oi := { dst := _, op := _, type := _, pos := _, after := _, guard := _ }) (v := ?v1e24) rfl (by kernel_rfl) (by kernel_rfl) (by kernel_rfl) (fun _ _ _ h => leaves_put 6 rfl (by decide) h) (Or.inl ⟨by rfl, ?y1e24⟩) (by assumption) ?r1e24; (case y1e24 => intro w hSw; go_simp <;> with_reducible rfl); simp only [Act.put, List.setIfInBounds_toArray, List.set_cons_zero, List.set_cons_succ])
                                | (refine wpAnyH_take (i := 24) (oi := { dst := _, op := _, type := _, pos := _, after := _, guard := _ }) (v := undef) rfl (by kernel_rfl) (by kernel_rfl) (by kernel_rfl) (fun _ _ _ h => leaves_put 6 rfl (by decide) h) (Or.inr ⟨by rfl, rfl⟩) (by assumption) ?r1e24; simp only [Act.put, List.setIfInBounds_toArray, List.set_cons_zero, List.set_cons_succ])
                              first
                                | (refine wpAnyH_take (i := 25) (oi := { dst := _, op := _, type := _, pos := _, after := _, guard := _ }) (v := ?v1e25) rfl (by kernel_rfl) (by kernel_rfl) (by kernel_rfl) (fun _ _ _ h => leaves_put 6 rfl (by decide) h) (Or.inl ⟨by rfl, ?y1e25⟩) (by assumption) ?r1e25; (case y1e25 => intro w hSw; go_simp <;> with_reducible rfl); simp only [Act.put, List.setIfInBounds_toArray, List.set_cons_zero, List.set_cons_succ])
                                | (refine wpAnyH_take (i := 25) (oi := { dst := _, op := _, type := _, pos := _, after := _, guard := _ }) (v := undef) rfl (by kernel_rfl) (by kernel_rfl) (by kernel_rfl) (fun _ _ _ h => leaves_put 6 rfl (by decide) h) (Or.inr ⟨by rfl, rfl⟩) (by assumption) ?r1e25; simp only [Act.put, List.setIfInBounds_toArray, List.set_cons_zero, List.set_cons_succ])
                              first
                                | (refine wpAnyH_take (i := 26) (oi := { dst := _, op := _, type := _, pos := _, after := _, guard := _ }) (v := ?v1e26) rfl (by kernel_rfl) (by kernel_rfl) (by kernel_rfl) (fun _ _ _ h => leaves_put 6 rfl (by decide) h) (Or.inl ⟨by rfl, ?y1e26⟩) (by assumption) ?r1e26; (case y1e26 => intro w hSw; go_simp <;> with_reducible rfl); simp only [Act.put, List.setIfInBounds_toArray, List.set_cons_zero, List.set_cons_succ])
                                | (refine wpAnyH_take (i := 26) (oi := { dst := _, op := _, type := _, pos := _, after := _, guard := _ }) (v := undef) rfl (by kernel_rfl) (by kernel_rfl) (by kernel_rfl) (fun _ _ _ h => leaves_put 6 rfl (by decide) h) (Or.inr ⟨by rfl, rfl⟩) (by assumption) ?r1e26; simp only [Act.put, List.setIfInBounds_toArray, List.set_cons_zero, List.set_cons_succ])
                              first
                                | (refine wpAnyH_take (i := 27) (oi := { dst := _, op := _, type := _, pos := _, after := _, guard := _ }) (v := ?v1e27) rfl (by kernel_rfl) (by kernel_rfl) (by kernel_rfl) (fun _ _ _ h => leaves_put 6 rfl (by decide) h) (Or.inl ⟨by rfl, ?y1e27⟩) (by assumption) ?r1e27; (case y1e27 => intro w hSw; go_simp <;> with_reducible rfl); simp only [Act.put, List.setIfInBounds_toArray, List.set_cons_zero, List.set_cons_succ])
                                | (refine wpAnyH_take (i := 27) (oi := { dst := _, op := _, type := _, pos := _, after := _, guard := _ }) (v := undef) rfl (by kernel_rfl) (by kernel_rfl) (by kernel_rfl) (fun _ _ _ h => leaves_put 6 rfl (by decide) h) (Or.inr ⟨by rfl, rfl⟩) (by assumption) ?r1e27; simp only [Act.put, List.setIfInBounds_toArray, List.set_cons_zero, List.set_cons_succ])
                              first
                                | (refine wpAnyH_take (i := 28) (oi := { dst := _, op := _, type := _, pos := _, after := _, guard := _ }) (v := ?v1e28) rfl (by kernel_rfl) (by kernel_rfl) (by kernel_rfl) (fun _ _ _ h => leaves_put 6 rfl (by decide) h) (Or.inl ⟨by rfl, ?y1e28⟩) (by assumption) ?r1e28; (case y1e28 => intro w hSw; go_simp <;> with_reducible rfl); simp only [Act.put, List.setIfInBounds_toArray, List.set_cons_zero, List.set_cons_succ])
                                | (refine wpAnyH_take (i := 28) (oi := { dst := _, op := _, type := _, pos := _, after := _, guard := _ }) (v := undef) rfl (by kernel_rfl) (by kernel_rfl) (by kernel_rfl) (fun _ _ _ h => leaves_put 6 rfl (by decide) h) (Or.inr ⟨by rfl, rfl⟩) (by assumption) ?r1e28; simp only [Act.put, List.setIfInBounds_toArray, List.set_cons_zero, List.set_cons_succ])
                              first
                                | (refine wpAnyH_take (i := 29) (oi := { dst := _, op := _, type := _, pos := _, after := _, guard := _ }) (v := ?v1e29) rfl (by kernel_rfl) (by kernel_rfl) (by kernel_rfl) (fun _ _ _ h => leaves_put 6 rfl (by decide) h) (Or.inl ⟨by rfl, ?y1e29⟩) (by assumption) ?r1e29; (case y1e29 => intro w hSw; go_simp <;> with_reducible rfl); simp only [Act.put, List.setIfInBounds_toArray, List.set_cons_zero, List.set_cons_succ])
                                | (refine wpAnyH_take (i := 29) (oi := { dst := _, op := _, type := _, pos := _, after := _, guard := _ }) (v := undef) rfl (by kernel_rfl) (by kernel_rfl) (by kernel_rfl) (fun _ _ _ h => leaves_put 6 rfl (by decide) h) (Or.inr ⟨by rfl, rfl⟩) (by assumption) ?r1e29; simp only [Act.put, List.setIfInBounds_toArray, List.set_cons_zero, List.set_cons_succ])
                              first
                                | (refine wpAnyH_take (i := 30) (oi := { dst := _, op := _, type := _, pos := _, after := _, guard := _ }) (v := ?v1e30) rfl (by kernel_rfl) (by kernel_rfl) (by kernel_rfl) (fun _ _ _ h => leaves_put 6 rfl (by decide) h) (Or.inl ⟨by rfl, ?y1e30⟩) (by assumption) ?r1e30; (case y1e30 => intro w hSw; go_simp <;> with_reducible rfl); simp only [Act.put, List.setIfInBounds_toArray, List.set_cons_zero, List.set_cons_succ])
                                | (refine wpAnyH_take (i := 30) (oi := { dst := _, op := _, type := _, pos := _, after := _, guard := _ }) (v := undef) rfl (by kernel_rfl) (by kernel_rfl) (by kernel_rfl) (fun _ _ _ h => leaves_put 6 rfl (by decide) h) (Or.inr ⟨by rfl, rfl⟩) (by assumption) ?r1e30; simp only [Act.put, List.setIfInBounds_toArray, List.set_cons_zero, List.set_cons_succ])
                              have cR := P9.res.cell
                              have fR := P9.res.froz
                              refine wpAnyH_ready (rs := [31]) (by kernel_rfl) (by simp) ?_
                              have hD := hK
                              clear hK
                              refine AllReadyH.cons (o := { dst := _, op := _, type := _, pos := _, after := _, guard := _ }) rfl (fun K hK => ?_) AllReadyH.nil
                              rw [if_pos (show Region.wanted _ _ = true from rfl)]
                              go_simp
                              refine hK.out _ _ (Off.setCell s0 (a := ⟨N + 1, 0, none⟩) ⟨4, by simp, P9.res.ty⟩ _) (fun _ => ?_)
                              clear hK K
                              refine wpAnyH_done (by kernel_rfl) ?_ _
                              go_wp2_with fail
                              all_goals
                                have q1 : (W12.setCell ⟨N + 1, 0, none⟩ (.bool true)).drew.heap[D]? = some (.deferred (some [])) := by
                                  show (W12.setCell ⟨N + 1, 0, none⟩ (.bool true)).heap[D]? = _
                                  rw [Below.heap_setCell _ _ _ _ (by simp; omega)]; exact hD
                                have R2 := P9.res.set (.bool true)
                                have hBf := (P9.bel.setCell (p := ⟨N + 1, 0, none⟩) (by show N ≤ N + 1; omega) (.bool true)).drew
                                have hbD := Below.putObj (Below.refl (N + 2) (W12.setCell ⟨N + 1, 0, none⟩ (.bool true)).drew) (l := D) (by omega) (.deferred none)
                                have m6 := ((R2.keep (Below.refl _ _).drew).keepAt hbD (by omega)).cell
                                refine ⟨by simp, .inl ⟨_, _, rfl, run_takeDeferred q1, ?_⟩⟩
                                refine ⟨.bool true, ?_, rfl, hBf.trans (hbD.mono (by omega))⟩
                                simp [results, Try.results8, go_sem, m6]
                            · as_aux_lemma =>
                              obtain ⟨m, hm⟩ : ∃ m, L.length = m + 1 := ⟨L.length - 1, by omega⟩
                              have hm64 : (m : Int) ≤ 63 := by omega
                              have hwm := wrapNat m hm64
                              have hml1 : (m : Int) < (m : Int) + 1 := by omega
                              have hml2 : (m : Int) < ((m + 1 : Nat) : Int) := by omega
                              have hml0 : ¬ ((m : Int) < 0) := by omega
                              have hy := List.getElem?_eq_getElem (l := L) (i := m) (by omega)
                              generalize L[m] = y at *
                              have hrm : rs[m]? = some y.rule := by rw [← hrs, List.getElem?_map, hy]; rfl
                              rw [hm] at P9 ⊢
                              go_wp2_with fail
                              refine (rule_at b v L last m y (by omega) hy W P9.watch).mono ?_
                              rintro e W10 ⟨rfl, hc⟩
                              replace P9 := P9.keep hc
                              replace C9 := C9.keep hc
                              replace hK := (hc.block D (Array.getElem?_eq_some_iff.1 hK).1).trans hK
                              clear hc
                              unfold ruleV
                              go_wp2_with fail
                              have hc := Below.al (Below.refl W10.heap.size W10) (.cells #[.int .u8 y.rule.kind, .int .u64 y.rule.job, .int .i64 y.rule.n] 34)
                              have R9 := RuleAt.new W10 34 y.rule W10.heap.size rfl
                              replace P9 := P9.keep hc
                              replace C9 := C9.keep hc
                              replace hK := (hc.block D (Array.getElem?_eq_some_iff.1 hK).1).trans hK
                              clear hc
                              refine (rule_bad b v L last ((m : Int) + 1) (by omega) (.inr ⟨by omega, by omega⟩) _ P9.watch).mono ?_
                              rintro e W11 ⟨rfl, hc⟩
                              replace P9 := P9.keep hc
                              replace C9 := C9.keep hc
                              replace hK := (hc.block D (Array.getElem?_eq_some_iff.1 hK).1).trans hK
                              replace R9 := R9.keep hc
                              clear hc
                              unfold ruleV
                              go_upto_region 76 with fail
                              have hc := Below.al (Below.refl W11.heap.size W11) (.cells #[.int .u8 0, .int .u64 0, .int .i64 0] 34)
                              replace P9 := P9.keep hc
                              replace C9 := C9.keep hc
                              replace hK := (hc.block D (Array.getElem?_eq_some_iff.1 hK).1).trans hK
                              replace R9 := R9.keep hc
                              clear hc
                              generalize W11.alloc (.cells #[.int .u8 0, .int .u64 0, .int .i64 0] 34) = W12 at *
                              refine wp_region_held_drew (S := fun w' => OffT [4] W12 w') (by kernel_rfl) (Off.refl _ W12).drew (fun _ => ?_)
                              have s0 : OffT [4] W12 W12.drew := (Off.refl _ W12).drew
                              have e0 := fun w' (h : OffT [4] W12 w') => (h.num C9 (by decide)).cell
                              have e1 := fun w' (h : OffT [4] W12 w') => (h.num P9.lft (by decide)).cell
                              have hrn : rs.length = m + 1 := by omega
                              obtain ⟨go, gc, hgv, -, -⟩ := ownN_row P9.own (by omega)
                              obtain ⟨rfl, -, rfl⟩ : oo = some ⟨go, 0, none⟩ ∧ m + 1 = rs.length ∧ oc = gc := by simpa using hgv
                              clear hgv
                              have e2 := fun w' (h : OffT [4] W12 w') => (h.rule R9 (by decide)).facts.1
                              have e3 := fun w' (h : OffT [4] W12 w') => (h.rule R9 (by decide)).facts.2.1
                              have e4 := fun w' (h : OffT [4] W12 w') => (h.rule R9 (by decide)).facts.2.2
                              have e5 := fun w' (h : OffT [4] W12 w') => ownRule (h.row P9.own (by decide)) hrm hrn
                              have e6 := fun w' h => (e5 w' h).1
                              have e7 := fun w' h => (e5 w' h).2.1
                              have e8 := fun w' h => (e5 w' h).2.2
                              clear e5
                              first
                                | (refine wpAnyH_take (i := 0) (oi := { dst := _, op := _, type := _, pos := _, after := _, guard := _ }) (v := ?v1f0) rfl (by kernel_rfl) (by kernel_rfl) (by kernel_rfl) (fun _ _ _ h => leaves_put 6 rfl (by decide) h) (Or.inl ⟨by rfl, ?y1f0⟩) (by assumption) ?r1f0; (case y1f0 => intro w hSw; go_simp <;> with_reducible rfl); simp only [Act.put, List.setIfInBounds_toArray, List.set_cons_zero, List.set_cons_succ])
                                | (refine wpAnyH_take (i := 0) (oi := { dst := _, op := _, type := _, pos := _, after := _, guard := _ }) (v := undef) rfl (by kernel_rfl) (by kernel_rfl) (by kernel_rfl) (fun _ _ _ h => leaves_put 6 rfl (by decide) h) (Or.inr ⟨by rfl, rfl⟩) (by assumption) ?r1f0; simp only [Act.put, List.setIfInBounds_toArray, List.set_cons_zero, List.set_cons_succ])
                              first
                                | (refine wpAnyH_take (i := 1) (oi := { dst := _, op := _, type := _, pos := _, after := _, guard := _ }) (v := ?v1f1) rfl (by kernel_rfl) (by kernel_rfl) (by kernel_rfl) (fun _ _ _ h => leaves_put 6 rfl (by decide) h) (Or.inl ⟨by rfl, ?y1f1⟩) (by assumption) ?r1f1; (case y1f1 => intro w hSw; go_simp <;> with_reducible rfl); simp only [Act.put, List.setIfInBounds_toArray, List.set_cons_zero, List.set_cons_succ])
                                | (refine wpAnyH_take (i := 1) (oi := { dst := _, op := _, type := _, pos := _, after := _, guard := _ }) (v := undef) rfl (by kernel_rfl) (by kernel_rfl) (by kernel_rfl) (fun _ _ _ h => leaves_put 6 rfl (by decide) h) (Or.inr ⟨by rfl, rfl⟩) (by assumption) ?r1f1; simp only [Act.put, List.setIfInBounds_toArray, List.set_cons_zero, List.set_cons_succ])
                              first
                                | (refine wpAnyH_take (i := 2) (oi := { dst := _, op := _, type := _, pos := _, after := _, guard := _ }) (v := ?v1f2) rfl (by kernel_rfl) (by kernel_rfl) (by kernel_rfl) (fun _ _ _ h => leaves_put 6 rfl (by decide) h) (Or.inl ⟨by rfl, ?y1f2⟩) (by assumption) ?r1f2; (case y1f2 => intro w hSw; go_simp <;> with_reducible rfl); simp only [Act.put, List.setIfInBounds_toArray, List.set_cons_zero, List.set_cons_succ])
                                | (refine wpAnyH_take (i := 2) (oi := { dst := _, op := _, type := _, pos := _, after := _, guard := _ }) (v := undef) rfl (by kernel_rfl) (by kernel_rfl) (by kernel_rfl) (fun _ _ _ h => leaves_put 6 rfl (by decide) h) (Or.inr ⟨by rfl, rfl⟩) (by assumption) ?r1f2; simp only [Act.put, List.setIfInBounds_toArray, List.set_cons_zero, List.set_cons_succ])
                              first
                                | (refine wpAnyH_take (i := 3) (oi := { dst := _, op := _, type := _, pos := _, after := _, guard := _ }) (v := ?v1f3) rfl (by kernel_rfl) (by kernel_rfl) (by kernel_rfl) (fun _ _ _ h => leaves_put 6 rfl (by decide) h) (Or.inl ⟨by rfl, ?y1f3⟩) (by assumption) ?r1f3; (case y1f3 => intro w hSw; go_simp <;> with_reducible rfl); simp only [Act.put, List.setIfInBounds_toArray, List.set_cons_zero, List.set_cons_succ])
                                | (refine wpAnyH_take (i := 3) (oi := { dst := _, op := _, type := _, pos := _, after := _, guard := _ }) (v := undef) rfl (by kernel_rfl) (by kernel_rfl) (by kernel_rfl) (fun _ _ _ h => leaves_put 6 rfl (by decide) h) (Or.inr ⟨by rfl, rfl⟩) (by assumption) ?r1f3; simp only [Act.put, List.setIfInBounds_toArray, List.set_cons_zero, List.set_cons_succ])
                              first
                                | (refine wpAnyH_take (i := 4) (oi := { dst := _, op := _, type := _, pos := _, after := _, guard := _ }) (v := ?v1f4) rfl (by kernel_rfl) (by kernel_rfl) (by kernel_rfl) (fun _ _ _ h => leaves_put 6 rfl (by decide) h) (Or.inl ⟨by rfl, ?y1f4⟩) (by assumption) ?r1f4; (case y1f4 => intro w hSw; go_simp <;> with_reducible rfl); simp only [Act.put, List.setIfInBounds_toArray, List.set_cons_zero, List.set_cons_succ])
                                | (refine wpAnyH_take (i := 4) (oi := { dst := _, op := _, type := _, pos := _, after := _, guard := _ }) (v := undef) rfl (by kernel_rfl) (by kernel_rfl) (by kernel_rfl) (fun _ _ _ h => leaves_put 6 rfl (by decide) h) (Or.inr ⟨by rfl, rfl⟩) (by assumption) ?r1f4; simp only [Act.put, List.setIfInBounds_toArray, List.set_cons_zero, List.set_cons_succ])
                              first
                                | (refine wpAnyH_take (i := 5) (oi := { dst := _, op := _, type := _, pos := _, after := _, guard := _ }) (v := ?v1f5) rfl (by kernel_rfl) (by kernel_rfl) (by kernel_rfl) (fun _ _ _ h => leaves_put 6 rfl (by decide) h) (Or.inl ⟨by rfl, ?y1f5⟩) (by assumption) ?r1f5; (case y1f5 => intro w hSw; go_simp <;> with_reducible rfl); simp only [Act.put, List.setIfInBounds_toArray, List.set_cons_zero, List.set_cons_succ])
                                | (refine wpAnyH_take (i := 5) (oi := { dst := _, op := _, type := _, pos := _, after := _, guard := _ }) (v := undef) rfl (by kernel_rfl) (by kernel_rfl) (by kernel_rfl) (fun _ _ _ h => leaves_put 6 rfl (by decide) h) (Or.inr ⟨by rfl, rfl⟩) (by assumption) ?r1f5; simp only [Act.put, List.setIfInBounds_toArray, List.set_cons_zero, List.set_cons_succ])
                              first
                                | (refine wpAnyH_take (i := 6) (oi := { dst := _, op := _, type := _, pos := _, after := _, guard := _ }) (v := ?v1f6) rfl (by kernel_rfl) (by kernel_rfl) (by kernel_rfl) (fun _ _ _ h => leaves_put 6 rfl (by decide) h) (Or.inl ⟨by rfl, ?y1f6⟩) (by assumption) ?r1f6; (case y1f6 => intro w hSw; go_simp <;> with_reducible rfl); simp only [Act.put, List.setIfInBounds_toArray, List.set_cons_zero, List.set_cons_succ])
                                | (refine wpAnyH_take (i := 6) (oi := { dst := _, op := _, type := _, pos := _, after := _, guard := _ }) (v := undef) rfl (by kernel_rfl) (by kernel_rfl) (by kernel_rfl) (fun _ _ _ h => leaves_put 6 rfl (by decide) h) (Or.inr ⟨by rfl, rfl⟩) (by assumption) ?r1f6; simp only [Act.put, List.setIfInBounds_toArray, List.set_cons_zero, List.set_cons_succ])
                              first
                                | (refine wpAnyH_take (i := 7) (oi := { dst := _, op := _, type := _, pos := _, after := _, guard := _ }) (v := ?v1f7) rfl (by kernel_rfl) (by kernel_rfl) (by kernel_rfl) (fun _ _ _ h => leaves_put 6 rfl (by decide) h) (Or.inl ⟨by rfl, ?y1f7⟩) (by assumption) ?r1f7; (case y1f7 => intro w hSw; go_simp <;> with_reducible rfl); simp only [Act.put, List.setIfInBounds_toArray, List.set_cons_zero, List.set_cons_succ])
                                | (refine wpAnyH_take (i := 7) (oi := { dst := _, op := _, type := _, pos := _, after := _, guard := _ }) (v := undef) rfl (by kernel_rfl) (by kernel_rfl) (by kernel_rfl) (fun _ _ _ h => leaves_put 6 rfl (by decide) h) (Or.inr ⟨by rfl, rfl⟩) (by assumption) ?r1f7; simp only [Act.put, List.setIfInBounds_toArray, List.set_cons_zero, List.set_cons_succ])
                              first
                                | (refine wpAnyH_take (i := 8) (oi := { dst := _, op := _, type := _, pos := _, after := _, guard := _ }) (v := ?v1f8) rfl (by kernel_rfl) (by kernel_rfl) (by kernel_rfl) (fun _ _ _ h => leaves_put 6 rfl (by decide) h) (Or.inl ⟨by rfl, ?y1f8⟩) (by assumption) ?r1f8; (case y1f8 => intro w hSw; go_simp <;> with_reducible rfl); simp only [Act.put, List.setIfInBounds_toArray, List.set_cons_zero, List.set_cons_succ])
                                | (refine wpAnyH_take (i := 8) (oi := { dst := _, op := _, type := _, pos := _, after := _, guard := _ }) (v := undef) rfl (by kernel_rfl) (by kernel_rfl) (by kernel_rfl) (fun _ _ _ h => leaves_put 6 rfl (by decide) h) (Or.inr ⟨by rfl, rfl⟩) (by assumption) ?r1f8; simp only [Act.put, List.setIfInBounds_toArray, List.set_cons_zero, List.set_cons_succ])
                              first
                                | (refine wpAnyH_take (i := 9) (oi := { dst := _, op := _, type := _, pos := _, after := _, guard := _ }) (v := ?v1f9) rfl (by kernel_rfl) (by kernel_rfl) (by kernel_rfl) (fun _ _ _ h => leaves_put 6 rfl (by decide) h) (Or.inl ⟨by rfl, ?y1f9⟩) (by assumption) ?r1f9; (case y1f9 => intro w hSw; go_simp <;> with_reducible rfl); simp only [Act.put, List.setIfInBounds_toArray, List.set_cons_zero, List.set_cons_succ])
                                | (refine wpAnyH_take (i := 9) (oi := { dst := _, op := _, type := _, pos := _, after := _, guard := _ }) (v := undef) rfl (by kernel_rfl) (by kernel_rfl) (by kernel_rfl) (fun _ _ _ h => leaves_put 6 rfl (by decide) h) (Or.inr ⟨by rfl, rfl⟩) (by assumption) ?r1f9; simp only [Act.put, List.setIfInBounds_toArray, List.set_cons_zero, List.set_cons_succ])
                              first
                                | (refine wpAnyH_take (i := 10) (oi := { dst := _, op := _, type := _, pos := _, after := _, guard := _ }) (v := ?v1f10) rfl (by kernel_rfl) (by kernel_rfl) (by kernel_rfl) (fun _ _ _ h => leaves_put 6 rfl (by decide) h) (Or.inl ⟨by rfl, ?y1f10⟩) (by assumption) ?r1f10; (case y1f10 => intro w hSw; go_simp <;> with_reducible rfl); simp only [Act.put, List.setIfInBounds_toArray, List.set_cons_zero, List.set_cons_succ])
                                | (refine wpAnyH_take (i := 10) (oi := { dst := _, op := _, type := _, pos := _, after := _, guard := _ }) (v := undef) rfl (by kernel_rfl) (by kernel_rfl) (by kernel_rfl) (fun _ _ _ h => leaves_put 6 rfl (by decide) h) (Or.inr ⟨by rfl, rfl⟩) (by assumption) ?r1f10; simp only [Act.put, List.setIfInBounds_toArray, List.set_cons_zero, List.set_cons_succ])
                              first
                                | (refine wpAnyH_take (i := 11) (oi := { dst := _, op := _, type := _, pos := _, after := _, guard := _ }) (v := ?v1f11) rfl (by kernel_rfl) (by kernel_rfl) (by kernel_rfl) (fun _ _ _ h => leaves_put 6 rfl (by decide) h) (Or.inl ⟨by rfl, ?y1f11⟩) (by assumption) ?r1f11; (case y1f11 => intro w hSw; go_simp <;> with_reducible rfl); simp only [Act.put, List.setIfInBounds_toArray, List.set_cons_zero, List.set_cons_succ])
                                | (refine wpAnyH_take (i := 11) (oi := { dst := _, op := _, type := _, pos := _, after := _, guard := _ }) (v := undef) rfl (by kernel_rfl) (by kernel_rfl) (by kernel_rfl) (fun _ _ _ h => leaves_put 6 rfl (by decide) h) (Or.inr ⟨by rfl, rfl⟩) (by assumption) ?r1f11; simp only [Act.put, List.setIfInBounds_toArray, List.set_cons_zero, List.set_cons_succ])
                              first
                                | (refine wpAnyH_take (i := 12) (oi := { dst := _, op := _, type := _, pos := _, after := _, guard := _ }) (v := ?v1f12) rfl (by kernel_rfl) (by kernel_rfl) (by kernel_rfl) (fun _ _ _ h => leaves_put 6 rfl (by decide) h) (Or.inl ⟨by rfl, ?y1f12⟩) (by assumption) ?r1f12; (case y1f12 => intro w hSw; go_simp <;> with_reducible rfl); simp only [Act.put, List.setIfInBounds_toArray, List.set_cons_zero, List.set_cons_succ])
                                | (refine wpAnyH_take (i := 12) (oi := { dst := _, op := _, type := _, pos := _, after := _, guard := _ }) (v := undef) rfl (by kernel_rfl) (by kernel_rfl) (by kernel_rfl) (fun _ _ _ h => leaves_put 6 rfl (by decide) h) (Or.inr ⟨by rfl, rfl⟩) (by assumption) ?r1f12; simp only [Act.put, List.setIfInBounds_toArray, List.set_cons_zero, List.set_cons_succ])
                              first
                                | (refine wpAnyH_take (i := 13) (oi := { dst := _, op := _, type := _, pos := _, after := _, guard := _ }) (v := ?v1f13) rfl (by kernel_rfl) (by kernel_rfl) (by kernel_rfl) (fun _ _ _ h => leaves_put 6 rfl (by decide) h) (Or.inl ⟨by rfl, ?y1f13⟩) (by assumption) ?r1f13; (case y1f13 => intro w hSw; go_simp <;> with_reducible rfl); simp only [Act.put, List.setIfInBounds_toArray, List.set_cons_zero, List.set_cons_succ])
                                | (refine wpAnyH_take (i := 13) (oi := { dst := _, op := _, type := _, pos := _, after := _, guard := _ }) (v := undef) rfl (by kernel_rfl) (by kernel_rfl) (by kernel_rfl) (fun _ _ _ h => leaves_put 6 rfl (by decide) h) (Or.inr ⟨by rfl, rfl⟩) (by assumption) ?r1f13; simp only [Act.put, List.setIfInBounds_toArray, List.set_cons_zero, List.set_cons_succ])
                              first
                                | (refine wpAnyH_take (i := 14) (oi := { dst := _, op := _, type := _, pos := _, after := _, guard := _ }) (v := ?v1f14) rfl (by kernel_rfl) (by kernel_rfl) (by kernel_rfl) (fun _ _ _ h => leaves_put 6 rfl (by decide) h) (Or.inl ⟨by rfl, ?y1f14⟩) (by assumption) ?r1f14; (case y1f14 => intro w hSw; go_simp <;> with_reducible rfl); simp only [Act.put, List.setIfInBounds_toArray, List.set_cons_zero, List.set_cons_succ])
                                | (refine wpAnyH_take (i := 14) (oi := { dst := _, op := _, type := _, pos := _, after := _, guard := _ }) (v := undef) rfl (by kernel_rfl) (by kernel_rfl) (by kernel_rfl) (fun _ _ _ h => leaves_put 6 rfl (by decide) h) (Or.inr ⟨by rfl, rfl⟩) (by assumption) ?r1f14; simp only [Act.put, List.setIfInBounds_toArray, List.set_cons_zero, List.set_cons_succ])
                              first
                                | (refine wpAnyH_take (i := 15) (oi := { dst := _, op := _, type := _, pos := _, after := _, guard := _ }) (v := ?v1f15) rfl (by kernel_rfl) (by kernel_rfl) (by kernel_rfl) (fun _ _ _ h => leaves_put 6 rfl (by decide) h) (Or.inl ⟨by rfl, ?y1f15⟩) (by assumption) ?r1f15; (case y1f15 => intro w hSw; go_simp <;> with_reducible rfl); simp only [Act.put, List.setIfInBounds_toArray, List.set_cons_zero, List.set_cons_succ])
                                | (refine wpAnyH_take (i := 15) (oi := { dst := _, op := _, type := _, pos := _, after := _, guard := _ }) (v := undef) rfl (by kernel_rfl) (by kernel_rfl) (by kernel_rfl) (fun _ _ _ h => leaves_put 6 rfl (by decide) h) (Or.inr ⟨by rfl, rfl⟩) (by assumption) ?r1f15; simp only [Act.put, List.setIfInBounds_toArray, List.set_cons_zero, List.set_cons_succ])
                              first
                                | (refine wpAnyH_take (i := 16) (oi := { dst := _, op := _, type := _, pos := _, after := _, guard := _ }) (v := ?v1f16) rfl (by kernel_rfl) (by kernel_rfl) (by kernel_rfl) (fun _ _ _ h => leaves_put 6 rfl (by decide) h) (Or.inl ⟨by rfl, ?y1f16⟩) (by assumption) ?r1f16; (case y1f16 => intro w hSw; go_simp <;> with_reducible rfl); simp only [Act.put, List.setIfInBounds_toArray, List.set_cons_zero, List.set_cons_succ])
                                | (refine wpAnyH_take (i := 16) (oi := { dst := _, op := _, type := _, pos := _, after := _, guard := _ }) (v := undef) rfl (by kernel_rfl) (by kernel_rfl) (by kernel_rfl) (fun _ _ _ h => leaves_put 6 rfl (by decide) h) (Or.inr ⟨by rfl, rfl⟩) (by assumption) ?r1f16; simp only [Act.put, List.setIfInBounds_toArray, List.set_cons_zero, List.set_cons_succ])
                              first
                                | (refine wpAnyH_take (i := 17) (oi := { dst := _, op := _, type := _, pos := _, after := _, guard := _ }) (v := ?v1f17) rfl (by kernel_rfl) (by kernel_rfl) (by kernel_rfl) (fun _ _ _ h => leaves_put 6 rfl (by decide) h) (Or.inl ⟨by rfl, ?y1f17⟩) (by assumption) ?r1f17; (case y1f17 => intro w hSw; go_simp <;> with_reducible rfl); simp only [Act.put, List.setIfInBounds_toArray, List.set_cons_zero, List.set_cons_succ])
                                | (refine wpAnyH_take (i := 17) (oi := { dst := _, op := _, type := _, pos := _, after := _, guard := _ }) (v := undef) rfl (by kernel_rfl) (by kernel_rfl) (by kernel_rfl) (fun _ _ _ h => leaves_put 6 rfl (by decide) h) (Or.inr ⟨by rfl, rfl⟩) (by assumption) ?r1f17; simp only [Act.put, List.setIfInBounds_toArray, List.set_cons_zero, List.set_cons_succ])
                              first
                                | (refine wpAnyH_take (i := 18) (oi := { dst := _, op := _, type := _, pos := _, after := _, guard := _ }) (v := ?v1f18) rfl (by kernel_rfl) (by kernel_rfl) (by kernel_rfl) (fun _ _ _ h => leaves_put 6 rfl (by decide) h) (Or.inl ⟨by rfl, ?y1f18⟩) (by assumption) ?r1f18; (case y1f18 => intro w hSw; go_simp <;> with_reducible rfl); simp only [Act.put, List.setIfInBounds_toArray, List.set_cons_zero, List.set_cons_succ])
                                | (refine wpAnyH_take (i := 18) (oi := { dst := _, op := _, type := _, pos := _, after := _, guard := _ }) (v := undef) rfl (by kernel_rfl) (by kernel_rfl) (by kernel_rfl) (fun _ _ _ h => leaves_put 6 rfl (by decide) h) (Or.inr ⟨by rfl, rfl⟩) (by assumption) ?r1f18; simp only [Act.put, List.setIfInBounds_toArray, List.set_cons_zero, List.set_cons_succ])
                              first
                                | (refine wpAnyH_take (i := 19) (oi := { dst := _, op := _, type := _, pos := _, after := _, guard := _ }) (v := ?v1f19) rfl (by kernel_rfl) (by kernel_rfl) (by kernel_rfl) (fun _ _ _ h => leaves_put 6 rfl (by decide) h) (Or.inl ⟨by rfl, ?y1f19⟩) (by assumption) ?r1f19; (case y1f19 => intro w hSw; go_simp <;> with_reducible rfl); simp only [Act.put, List.setIfInBounds_toArray, List.set_cons_zero, List.set_cons_succ])
                                | (refine wpAnyH_take (i := 19) (oi := { dst := _, op := _, type := _, pos := _, after := _, guard := _ }) (v := undef) rfl (by kernel_rfl) (by kernel_rfl) (by kernel_rfl) (fun _ _ _ h => leaves_put 6 rfl (by decide) h) (Or.inr ⟨by rfl, rfl⟩) (by assumption) ?r1f19; simp only [Act.put, List.setIfInBounds_toArray, List.set_cons_zero, List.set_cons_succ])
                              first
                                | (refine wpAnyH_take (i := 20) (oi := { dst := _, op := _, type := _, pos := _, after := _, guard := _ }) (v := ?v1f20) rfl (by kernel_rfl) (by kernel_rfl) (by kernel_rfl) (fun _ _ _ h => leaves_put 6 rfl (by decide) h) (Or.inl ⟨by rfl, ?y1f20⟩) (by assumption) ?r1f20; (case y1f20 => intro w hSw; go_simp <;> with_reducible rfl); simp only [Act.put, List.setIfInBounds_toArray, List.set_cons_zero, List.set_cons_succ])
                                | (refine wpAnyH_take (i := 20) (oi := { dst := _, op := _, type := _, pos := _, after := _, guard := _ }) (v := undef) rfl (by kernel_rfl) (by kernel_rfl) (by kernel_rfl) (fun _ _ _ h => leaves_put 6 rfl (by decide) h) (Or.inr ⟨by rfl, rfl⟩) (by assumption) ?r1f20; simp only [Act.put, List.setIfInBounds_toArray, List.set_cons_zero, List.set_cons_succ])
                              first
                                | (refine wpAnyH_take (i := 21) (oi := { dst := _, op := _, type := _, pos := _, after := _, guard := _ }) (v := ?v1f21) rfl (by kernel_rfl) (by kernel_rfl) (by kernel_rfl) (fun _ _ _ h => leaves_put 6 rfl (by decide) h) (Or.inl ⟨by rfl, ?y1f21⟩) (by assumption) ?r1f21; (case y1f21 => intro w hSw; go_simp <;> with_reducible rfl); simp only [Act.put, List.setIfInBounds_toArray, List.set_cons_zero, List.set_cons_succ])
                                | (refine wpAnyH_take (i := 21) (oi := { dst := _, op := _, type := _, pos := _, after := _, guard := _ }) (v := undef) rfl (by kernel_rfl) (by kernel_rfl) (by kernel_rfl) (fun _ _ _ h => leaves_put 6 rfl (by decide) h) (Or.inr ⟨by rfl, rfl⟩) (by assumption) ?r1f21; simp only [Act.put, List.setIfInBounds_toArray, List.set_cons_zero, List.set_cons_succ])
                              first
                                | (refine wpAnyH_take (i := 22) (oi := { dst := _, op := _, type := _, pos := _, after := _, guard := _ }) (v := ?v1f22) rfl (by kernel_rfl) (by kernel_rfl) (by kernel_rfl) (fun _ _ _ h => leaves_put 6 rfl (by decide) h) (Or.inl ⟨by rfl, ?y1f22⟩) (by assumption) ?r1f22; (case y1f22 => intro w hSw; go_simp <;> with_reducible rfl); simp only [Act.put, List.setIfInBounds_toArray, List.set_cons_zero, List.set_cons_succ])
                                | (refine wpAnyH_take (i := 22) (oi := { dst := _, op := _, type := _, pos := _, after := _, guard := _ }) (v := undef) rfl (by kernel_rfl) (by kernel_rfl) (by kernel_rfl) (fun _ _ _ h => leaves_put 6 rfl (by decide) h) (Or.inr ⟨by rfl, rfl⟩) (by assumption) ?r1f22; simp only [Act.put, List.setIfInBounds_toArray, List.set_cons_zero, List.set_cons_succ])
                              first
                                | (refine wpAnyH_take (i := 23) (oi := { dst := _, op := _, type := _, pos := _, after := _, guard := _ }) (v := ?v1f23) rfl (by kernel_rfl) (by kernel_rfl) (by kernel_rfl) (fun _ _ _ h => leaves_put 6 rfl (by decide) h) (Or.inl ⟨by rfl, ?y1f23⟩) (by assumption) ?r1f23; (case y1f23 => intro w hSw; go_simp <;> with_reducible rfl); simp only [Act.put, List.setIfInBounds_toArray, List.set_cons_zero, List.set_cons_succ])
                                | (refine wpAnyH_take (i := 23) (oi := { dst := _, op := _, type := _, pos := _, after := _, guard := _ }) (v := undef) rfl (by kernel_rfl) (by kernel_rfl) (by kernel_rfl) (fun _ _ _ h => leaves_put 6 rfl (by decide) h) (Or.inr ⟨by rfl, rfl⟩) (by assumption) ?r1f23; simp only [Act.put, List.setIfInBounds_toArray, List.set_cons_zero, List.set_cons_succ])
                              first
                                | (refine wpAnyH_take (i := 24) (oi := { dst := _, op := _, type := _, pos := _, after := _, guard := _ }) (v := ?v1f24) rfl (by kernel_rfl) (by kernel_rfl) (by kernel_rfl) (fun _ _ _ h => leaves_put 6 rfl (by decide) h) (Or.inl ⟨by rfl, ?y1f24⟩) (by assumption) ?r1f24; (case y1f24 => intro w hSw; go_simp <;> with_reducible rfl); simp only [Act.put, List.setIfInBounds_toArray, List.set_cons_zero, List.set_cons_succ])
                                | (refine wpAnyH_take (i := 24) (oi := { dst := _, op := _, type := _, pos := _, after := _, guard := _ }) (v := undef) rfl (by kernel_rfl) (by kernel_rfl) (by kernel_rfl) (fun _ _ _ h => leaves_put 6 rfl (by decide) h) (Or.inr ⟨by rfl, rfl⟩) (by assumption) ?r1f24; simp only [Act.put, List.setIfInBounds_toArray, List.set_cons_zero, List.set_cons_succ])
                              first
                                | (refine wpAnyH_take (i := 25) (oi := { dst := _, op := _, type := _, pos := _, after := _, guard := _ }) (v := ?v1f25) rfl (by kernel_rfl) (by kernel_rfl) (by kernel_rfl) (fun _ _ _ h => leaves_put 6 rfl (by decide) h) (Or.inl ⟨by rfl, ?y1f25⟩) (by assumption) ?r1f25; (case y1f25 => intro w hSw; go_simp <;> with_reducible rfl); simp only [Act.put, List.setIfInBounds_toArray, List.set_cons_zero, List.set_cons_succ])
                                | (refine wpAnyH_take (i := 25) (oi := { dst := _, op := _, type := _, pos := _, after := _, guard := _ }) (v := undef) rfl (by kernel_rfl) (by kernel_rfl) (by kernel_rfl) (fun _ _ _ h => leaves_put 6 rfl (by decide) h) (Or.inr ⟨by rfl, rfl⟩) (by assumption) ?r1f25; simp only [Act.put, List.setIfInBounds_toArray, List.set_cons_zero, List.set_cons_succ])
                              first
                                | (refine wpAnyH_take (i := 26) (oi := { dst := _, op := _, type := _, pos := _, after := _, guard := _ }) (v := ?v1f26) rfl (by kernel_rfl) (by kernel_rfl) (by kernel_rfl) (fun _ _ _ h => leaves_put 6 rfl (by decide) h) (Or.inl ⟨by rfl, ?y1f26⟩) (by assumption) ?r1f26; (case y1f26 => intro w hSw; go_simp <;> with_reducible rfl); simp only [Act.put, List.setIfInBounds_toArray, List.set_cons_zero, List.set_cons_succ])
                                | (refine wpAnyH_take (i := 26) (oi := { dst := _, op := _, type := _, pos := _, after := _, guard := _ }) (v := undef) rfl (by kernel_rfl) (by kernel_rfl) (by kernel_rfl) (fun _ _ _ h => leaves_put 6 rfl (by decide) h) (Or.inr ⟨by rfl, rfl⟩) (by assumption) ?r1f26; simp only [Act.put, List.setIfInBounds_toArray, List.set_cons_zero, List.set_cons_succ])
                              first
                                | (refine wpAnyH_take (i := 27) (oi := { dst := _, op := _, type := _, pos := _, after := _, guard := _ }) (v := ?v1f27) rfl (by kernel_rfl) (by kernel_rfl) (by kernel_rfl) (fun _ _ _ h => leaves_put 6 rfl (by decide) h) (Or.inl ⟨by rfl, ?y1f27⟩) (by assumption) ?r1f27; (case y1f27 => intro w hSw; go_simp <;> with_reducible rfl); simp only [Act.put, List.setIfInBounds_toArray, List.set_cons_zero, List.set_cons_succ])
                                | (refine wpAnyH_take (i := 27) (oi := { dst := _, op := _, type := _, pos := _, after := _, guard := _ }) (v := undef) rfl (by kernel_rfl) (by kernel_rfl) (by kernel_rfl) (fun _ _ _ h => leaves_put 6 rfl (by decide) h) (Or.inr ⟨by rfl, rfl⟩) (by assumption) ?r1f27; simp only [Act.put, List.setIfInBounds_toArray, List.set_cons_zero, List.set_cons_succ])
                              first
                                | (refine wpAnyH_take (i := 28) (oi := { dst := _, op := _, type := _, pos := _, after := _, guard := _ }) (v := ?v1f28) rfl (by kernel_rfl) (by kernel_rfl) (by kernel_rfl) (fun _ _ _ h => leaves_put 6 rfl (by decide) h) (Or.inl ⟨by rfl, ?y1f28⟩) (by assumption) ?r1f28; (case y1f28 => intro w hSw; go_simp <;> with_reducible rfl); simp only [Act.put, List.setIfInBounds_toArray, List.set_cons_zero, List.set_cons_succ])
                                | (refine wpAnyH_take (i := 28) (oi := { dst := _, op := _, type := _, pos := _, after := _, guard := _ }) (v := undef) rfl (by kernel_rfl) (by kernel_rfl) (by kernel_rfl) (fun _ _ _ h => leaves_put 6 rfl (by decide) h) (Or.inr ⟨by rfl, rfl⟩) (by assumption) ?r1f28; simp only [Act.put, List.setIfInBounds_toArray, List.set_cons_zero, List.set_cons_succ])
                              first
                                | (refine wpAnyH_take (i := 29) (oi := { dst := _, op := _, type := _, pos := _, after := _, guard := _ }) (v := ?v1f29) rfl (by kernel_rfl) (by kernel_rfl) (by kernel_rfl) (fun _ _ _ h => leaves_put 6 rfl (by decide) h) (Or.inl ⟨by rfl, ?y1f29⟩) (by assumption) ?r1f29; (case y1f29 => intro w hSw; go_simp <;> with_reducible rfl); simp only [Act.put, List.setIfInBounds_toArray, List.set_cons_zero, List.set_cons_succ])
                                | (refine wpAnyH_take (i := 29) (oi := { dst := _, op := _, type := _, pos := _, after := _, guard := _ }) (v := undef) rfl (by kernel_rfl) (by kernel_rfl) (by kernel_rfl) (fun _ _ _ h => leaves_put 6 rfl (by decide) h) (Or.inr ⟨by rfl, rfl⟩) (by assumption) ?r1f29; simp only [Act.put, List.setIfInBounds_toArray, List.set_cons_zero, List.set_cons_succ])
                              first
                                | (refine wpAnyH_take (i := 30) (oi := { dst := _, op := _, type := _, pos := _, after := _, guard := _ }) (v := ?v1f30) rfl (by kernel_rfl) (by kernel_rfl) (by kernel_rfl) (fun _ _ _ h => leaves_put 6 rfl (by decide) h) (Or.inl ⟨by rfl, ?y1f30⟩) (by assumption) ?r1f30; (case y1f30 => intro w hSw; go_simp <;> with_reducible rfl); simp only [Act.put, List.setIfInBounds_toArray, List.set_cons_zero, List.set_cons_succ])
                                | (refine wpAnyH_take (i := 30) (oi := { dst := _, op := _, type := _, pos := _, after := _, guard := _ }) (v := undef) rfl (by kernel_rfl) (by kernel_rfl) (by kernel_rfl) (fun _ _ _ h => leaves_put 6 rfl (by decide) h) (Or.inr ⟨by rfl, rfl⟩) (by assumption) ?r1f30; simp only [Act.put, List.setIfInBounds_toArray, List.set_cons_zero, List.set_cons_succ])
                              have cR := P9.res.cell
                              have fR := P9.res.froz
                              refine wpAnyH_ready (rs := [31]) (by kernel_rfl) (by simp) ?_
                              have hD := hK
                              clear hK
                              refine AllReadyH.cons (o := { dst := _, op := _, type := _, pos := _, after := _, guard := _ }) rfl (fun K hK => ?_) AllReadyH.nil
                              rw [if_pos (show Region.wanted _ _ = true from rfl)]
                              go_simp
                              refine hK.out _ _ (Off.setCell s0 (a := ⟨N + 1, 0, none⟩) ⟨4, by simp, P9.res.ty⟩ _) (fun _ => ?_)
                              clear hK K
                              refine wpAnyH_done (by kernel_rfl) ?_ _
                              go_wp2_with fail
                              all_goals
                                have q1 : (W12.setCell ⟨N + 1, 0, none⟩ (.bool true)).drew.heap[D]? = some (.deferred (some [])) := by
                                  show (W12.setCell ⟨N + 1, 0, none⟩ (.bool true)).heap[D]? = _
                                  rw [Below.heap_setCell _ _ _ _ (by simp; omega)]; exact hD
                                have R2 := P9.res.set (.bool true)
                                have hBf := (P9.bel.setCell (p := ⟨N + 1, 0, none⟩) (by show N ≤ N + 1; omega) (.bool true)).drew
                                have hbD := Below.putObj (Below.refl (N + 2) (W12.setCell ⟨N + 1, 0, none⟩ (.bool true)).drew) (l := D) (by omega) (.deferred none)
                                have m6 := ((R2.keep (Below.refl _ _).drew).keepAt hbD (by omega)).cell
                                refine ⟨by simp, .inl ⟨_, _, rfl, run_takeDeferred q1, ?_⟩⟩
                                refine ⟨.bool true, ?_, rfl, hBf.trans (hbD.mono (by omega))⟩
                                simp [results, Try.results8, go_sem, m6]
                          case stop =>
                            rintro D cx kx W hD hkx ⟨rfl, R⟩ hK
                            have hmin : ((kx + 1 : Nat) : Int) = min ((cntOn L : Nat) : Int) (max left 1) := by
                              have := R.full
                              have h3 := R.le
                              have h2 := cntOn_ons L
                              rw [Int.min_def, ← this]
                              split <;> omega
                            obtain ⟨nf, hnf⟩ : ∃ nf, kx + 1 = nf := ⟨_, rfl⟩
                            have C9 := R.num
                            have hoff := R.off
                            have hbel := R.bel
                            rw [hnf] at hmin C9
                            clear R
                            have hT3 : OffT [3] w8 W := Off.mono hoff (by rintro j (rfl | rfl); exact ⟨3, by simp, C0.ty⟩; exact ⟨3, by simp, D0.ty⟩)
                            have P9 : PI N w left b v (.slice oo L.length oc) bs (.slice so L.length sc) L last rs sn W := ⟨hoff.num P.lft hbxN, hT3.num P.res (by decide), hT3.wv P.watch (by decide) (by decide), hT3.row P.own (by decide), hT3.num P.box (by decide), hT3.row P.sin (by decide), P.hb, P.hv, P.hbs, hbel⟩
                            have hND : N + 1 < D := by have := P.res.lt; omega
                            clear hT3 hoff hbel C0 D0 P Psin hBx hD hbxs hsinN hbxN hNw
                            dsimp only
                            generalize cntOn L = cn at *
                            have hmn : (if (if left < 1 then (1 : Int) else left) < (cn : Int) then (if left < 1 then (1 : Int) else left) else (cn : Int)) = (nf : Int) := by
                              rw [hmin, Int.min_def, Int.max_def]
                              (repeat' split) <;> omega
                            clear hmin
                            by_cases hm : L.length = 0
                            · as_aux_lemma =>
                              rw [hm] at P9 ⊢
                              go_wp2_with fail
                              refine (rule_bad b v L last (-1) (by omega) (.inl (by decide)) W P9.watch).mono ?_
                              rintro e W10 ⟨rfl, hc⟩
                              replace P9 := P9.keep hc
                              replace C9 := C9.keep hc
                              replace hK := (hc.block D (Array.getElem?_eq_some_iff.1 hK).1).trans hK
                              clear hc
                              unfold ruleV
                              go_wp2_with fail
                              have hc := Below.al (Below.refl W10.heap.size W10) (.cells #[.int .u8 0, .int .u64 0, .int .i64 0] 34)
                              replace P9 := P9.keep hc
                              replace C9 := C9.keep hc
                              replace hK := (hc.block D (Array.getElem?_eq_some_iff.1 hK).1).trans hK
                              clear hc
                              refine (rule_bad b v L last 0 (by omega) (.inr ⟨by decide, by omega⟩) _ P9.watch).mono ?_
                              rintro e W11 ⟨rfl, hc⟩
                              replace P9 := P9.keep hc
                              replace C9 := C9.keep hc
                              replace hK := (hc.block D (Array.getElem?_eq_some_iff.1 hK).1).trans hK
                              clear hc
                              unfold ruleV
                              go_upto_region 76 with fail
                              have hc := Below.al (Below.refl W11.heap.size W11) (.cells #[.int .u8 0, .int .u64 0, .int .i64 0] 34)
                              replace P9 := P9.keep hc
                              replace C9 := C9.keep hc
                              replace hK := (hc.block D (Array.getElem?_eq_some_iff.1 hK).1).trans hK
                              clear hc
                              generalize W11.alloc (.cells #[.int .u8 0, .int .u64 0, .int .i64 0] 34) = W12 at *
                              refine wp_region_held_drew (S := fun w' => OffT [4] W12 w') (by kernel_rfl) (Off.refl _ W12).drew (fun _ => ?_)
                              have s0 : OffT [4] W12 W12.drew := (Off.refl _ W12).drew
                              have e0 := fun w' (h : OffT [4] W12 w') => (h.num C9 (by decide)).cell
                              have e1 := fun w' (h : OffT [4] W12 w') => (h.num P9.lft (by decide)).cell
                              first
                                | (refine wpAnyH_take (i := 0) (oi := { dst := _, op := _, type := _, pos := _, after := _, guard := _ }) (v := ?v2e0) rfl (by kernel_rfl) (by kernel_rfl) (by kernel_rfl) (fun _ _ _ h => leaves_put 6 rfl (by decide) h) (Or.inl ⟨by rfl, ?y2e0⟩) (by assumption) ?r2e0; (case y2e0 => intro w hSw; go_simp <;> with_reducible rfl); simp only [Act.put, List.setIfInBounds_toArray, List.set_cons_zero, List.set_cons_succ])
                                | (refine wpAnyH_take (i := 0) (oi := { dst := _, op := _, type := _, pos := _, after := _, guard := _ }) (v := undef) rfl (by kernel_rfl) (by kernel_rfl) (by kernel_rfl) (fun _ _ _ h => leaves_put 6 rfl (by decide) h) (Or.inr ⟨by rfl, rfl⟩) (by assumption) ?r2e0; simp only [Act.put, List.setIfInBounds_toArray, List.set_cons_zero, List.set_cons_succ])
                              first
                                | (refine wpAnyH_take (i := 1) (oi := { dst := _, op := _, type := _, pos := _, after := _, guard := _ }) (v := ?v2e1) rfl (by kernel_rfl) (by kernel_rfl) (by kernel_rfl) (fun _ _ _ h => leaves_put 6 rfl (by decide) h) (Or.inl ⟨by rfl, ?y2e1⟩) (by assumption) ?r2e1; (case y2e1 => intro w hSw; go_simp <;> with_reducible rfl); simp only [Act.put, List.setIfInBounds_toArray, List.set_cons_zero, List.set_cons_succ])
                                | (refine wpAnyH_take (i := 1) (oi := { dst := _, op := _, type := _, pos := _, after := _, guard := _ }) (v := undef) rfl (by kernel_rfl) (by kernel_rfl) (by kernel_rfl) (fun _ _ _ h => leaves_put 6 rfl (by decide) h) (Or.inr ⟨by rfl, rfl⟩) (by assumption) ?r2e1; simp only [Act.put, List.setIfInBounds_toArray, List.set_cons_zero, List.set_cons_succ])
                              first
                                | (refine wpAnyH_take (i := 2) (oi := { dst := _, op := _, type := _, pos := _, after := _, guard := _ }) (v := ?v2e2) rfl (by kernel_rfl) (by kernel_rfl) (by kernel_rfl) (fun _ _ _ h => leaves_put 6 rfl (by decide) h) (Or.inl ⟨by rfl, ?y2e2⟩) (by assumption) ?r2e2; (case y2e2 => intro w hSw; go_simp <;> with_reducible rfl); simp only [Act.put, List.setIfInBounds_toArray, List.set_cons_zero, List.set_cons_succ])
                                | (refine wpAnyH_take (i := 2) (oi := { dst := _, op := _, type := _, pos := _, after := _, guard := _ }) (v := undef) rfl (by kernel_rfl) (by kernel_rfl) (by kernel_rfl) (fun _ _ _ h => leaves_put 6 rfl (by decide) h) (Or.inr ⟨by rfl, rfl⟩) (by assumption) ?r2e2; simp only [Act.put, List.setIfInBounds_toArray, List.set_cons_zero, List.set_cons_succ])
                              first
                                | (refine wpAnyH_take (i := 3) (oi := { dst := _, op := _, type := _, pos := _, after := _, guard := _ }) (v := ?v2e3) rfl (by kernel_rfl) (by kernel_rfl) (by kernel_rfl) (fun _ _ _ h => leaves_put 6 rfl (by decide) h) (Or.inl ⟨by rfl, ?y2e3⟩) (by assumption) ?r2e3; (case y2e3 => intro w hSw; go_simp <;> with_reducible rfl); simp only [Act.put, List.setIfInBounds_toArray, List.set_cons_zero, List.set_cons_succ])
                                | (refine wpAnyH_take (i := 3) (oi := { dst := _, op := _, type := _, pos := _, after := _, guard := _ }) (v := undef) rfl (by kernel_rfl) (by kernel_rfl) (by kernel_rfl) (fun _ _ _ h => leaves_put 6 rfl (by decide) h) (Or.inr ⟨by rfl, rfl⟩) (by assumption) ?r2e3; simp only [Act.put, List.setIfInBounds_toArray, List.set_cons_zero, List.set_cons_succ])
                              first
                                | (refine wpAnyH_take (i := 4) (oi := { dst := _, op := _, type := _, pos := _, after := _, guard := _ }) (v := ?v2e4) rfl (by kernel_rfl) (by kernel_rfl) (by kernel_rfl) (fun _ _ _ h => leaves_put 6 rfl (by decide) h) (Or.inl ⟨by rfl, ?y2e4⟩) (by assumption) ?r2e4; (case y2e4 => intro w hSw; go_simp <;> with_reducible rfl); simp only [Act.put, List.setIfInBounds_toArray, List.set_cons_zero, List.set_cons_succ])
                                | (refine wpAnyH_take (i := 4) (oi := { dst := _, op := _, type := _, pos := _, after := _, guard := _ }) (v := undef) rfl (by kernel_rfl) (by kernel_rfl) (by kernel_rfl) (fun _ _ _ h => leaves_put 6 rfl (by decide) h) (Or.inr ⟨by rfl, rfl⟩) (by assumption) ?r2e4; simp only [Act.put, List.setIfInBounds_toArray, List.set_cons_zero, List.set_cons_succ])
                              first
                                | (refine wpAnyH_take (i := 5) (oi := { dst := _, op := _, type := _, pos := _, after := _, guard := _ }) (v := ?v2e5) rfl (by kernel_rfl) (by kernel_rfl) (by kernel_rfl) (fun _ _ _ h => leaves_put 6 rfl (by decide) h) (Or.inl ⟨by rfl, ?y2e5⟩) (by assumption) ?r2e5; (case y2e5 => intro w hSw; go_simp <;> with_reducible rfl); simp only [Act.put, List.setIfInBounds_toArray, List.set_cons_zero, List.set_cons_succ])
                                | (refine wpAnyH_take (i := 5) (oi := { dst := _, op := _, type := _, pos := _, after := _, guard := _ }) (v := undef) rfl (by kernel_rfl) (by kernel_rfl) (by kernel_rfl) (fun _ _ _ h => leaves_put 6 rfl (by decide) h) (Or.inr ⟨by rfl, rfl⟩) (by assumption) ?r2e5; simp only [Act.put, List.setIfInBounds_toArray, List.set_cons_zero, List.set_cons_succ])
                              first
                                | (refine wpAnyH_take (i := 6) (oi := { dst := _, op := _, type := _, pos := _, after := _, guard := _ }) (v := ?v2e6) rfl (by kernel_rfl) (by kernel_rfl) (by kernel_rfl) (fun _ _ _ h => leaves_put 6 rfl (by decide) h) (Or.inl ⟨by rfl, ?y2e6⟩) (by assumption) ?r2e6; (case y2e6 => intro w hSw; go_simp <;> with_reducible rfl); simp only [Act.put, List.setIfInBounds_toArray, List.set_cons_zero, List.set_cons_succ])
                                | (refine wpAnyH_take (i := 6) (oi := { dst := _, op := _, type := _, pos := _, after := _, guard := _ }) (v := undef) rfl (by kernel_rfl) (by kernel_rfl) (by kernel_rfl) (fun _ _ _ h => leaves_put 6 rfl (by decide) h) (Or.inr ⟨by rfl, rfl⟩) (by assumption) ?r2e6; simp only [Act.put, List.setIfInBounds_toArray, List.set_cons_zero, List.set_cons_succ])
                              first
                                | (refine wpAnyH_take (i := 7) (oi := { dst := _, op := _, type := _, pos := _, after := _, guard := _ }) (v := ?v2e7) rfl (by kernel_rfl) (by kernel_rfl) (by kernel_rfl) (fun _ _ _ h => leaves_put 6 rfl (by decide) h) (Or.inl ⟨by rfl, ?y2e7⟩) (by assumption) ?r2e7; (case y2e7 => intro w hSw; go_simp <;> with_reducible rfl); simp only [Act.put, List.setIfInBounds_toArray, List.set_cons_zero, List.set_cons_succ])
                                | (refine wpAnyH_take (i := 7) (oi := { dst := _, op := _, type := _, pos := _, after := _, guard := _ }) (v := undef) rfl (by kernel_rfl) (by kernel_rfl) (by kernel_rfl) (fun _ _ _ h => leaves_put 6 rfl (by decide) h) (Or.inr ⟨by rfl, rfl⟩) (by assumption) ?r2e7; simp only [Act.put, List.setIfInBounds_toArray, List.set_cons_zero, List.set_cons_succ])
                              first
                                | (refine wpAnyH_take (i := 8) (oi := { dst := _, op := _, type := _, pos := _, after := _, guard := _ }) (v := ?v2e8) rfl (by kernel_rfl) (by kernel_rfl) (by kernel_rfl) (fun _ _ _ h => leaves_put 6 rfl (by decide) h) (Or.inl ⟨by rfl, ?y2e8⟩) (by assumption) ?r2e8; (case y2e8 => intro w hSw; go_simp <;> with_reducible rfl); simp only [Act.put, List.setIfInBounds_toArray, List.set_cons_zero, List.set_cons_succ])
                                | (refine wpAnyH_take (i := 8) (oi := { dst := _, op := _, type := _, pos := _, after := _, guard := _ }) (v := undef) rfl (by kernel_rfl) (by kernel_rfl) (by kernel_rfl) (fun _ _ _ h => leaves_put 6 rfl (by decide) h) (Or.inr ⟨by rfl, rfl⟩) (by assumption) ?r2e8; simp only [Act.put, List.setIfInBounds_toArray, List.set_cons_zero, List.set_cons_succ])
                              first
                                | (refine wpAnyH_take (i := 9) (oi := { dst := _, op := _, type := _, pos := _, after := _, guard := _ }) (v := ?v2e9) rfl (by kernel_rfl) (by kernel_rfl) (by kernel_rfl) (fun _ _ _ h => leaves_put 6 rfl (by decide) h) (Or.inl ⟨by rfl, ?y2e9⟩) (by assumption) ?r2e9; (case y2e9 => intro w hSw; go_simp <;> with_reducible rfl); simp only [Act.put, List.setIfInBounds_toArray, List.set_cons_zero, List.set_cons_succ])
                                | (refine wpAnyH_take (i := 9) (oi := { dst := _, op := _, type := _, pos := _, after := _, guard := _ }) (v := undef) rfl (by kernel_rfl) (by kernel_rfl) (by kernel_rfl) (fun _ _ _ h => leaves_put 6 rfl (by decide) h) (Or.inr ⟨by rfl, rfl⟩) (by assumption) ?r2e9; simp only [Act.put, List.setIfInBounds_toArray, List.set_cons_zero, List.set_cons_succ])
                              first
                                | (refine wpAnyH_take (i := 10) (oi := { dst := _, op := _, type := _, pos := _, after := _, guard := _ }) (v := ?v2e10) rfl (by kernel_rfl) (by kernel_rfl) (by kernel_rfl) (fun _ _ _ h => leaves_put 6 rfl (by decide) h) (Or.inl ⟨by rfl, ?y2e10⟩) (by assumption) ?r2e10; (case y2e10 => intro w hSw; go_simp <;> with_reducible rfl); simp only [Act.put, List.setIfInBounds_toArray, List.set_cons_zero, List.set_cons_succ])
                                | (refine wpAnyH_take (i := 10) (oi := { dst := _, op := _, type := _, pos := _, after := _, guard := _ }) (v := undef) rfl (by kernel_rfl) (by kernel_rfl) (by kernel_rfl) (fun _ _ _ h => leaves_put 6 rfl (by decide) h) (Or.inr ⟨by rfl, rfl⟩) (by assumption) ?r2e10; simp only [Act.put, List.setIfInBounds_toArray, List.set_cons_zero, List.set_cons_succ])
                              first
                                | (refine wpAnyH_take (i := 11) (oi := { dst := _, op := _, type := _, pos := _, after := _, guard := _ }) (v := ?v2e11) rfl (by kernel_rfl) (by kernel_rfl) (by kernel_rfl) (fun _ _ _ h => leaves_put 6 rfl (by decide) h) (Or.inl ⟨by rfl, ?y2e11⟩) (by assumption) ?r2e11; (case y2e11 => intro w hSw; go_simp <;> with_reducible rfl); simp only [Act.put, List.setIfInBounds_toArray, List.set_cons_zero, List.set_cons_succ])
                                | (refine wpAnyH_take (i := 11) (oi := { dst := _, op := _, type := _, pos := _, after := _, guard := _ }) (v := undef) rfl (by kernel_rfl) (by kernel_rfl) (by kernel_rfl) (fun _ _ _ h => leaves_put 6 rfl (by decide) h) (Or.inr ⟨by rfl, rfl⟩) (by assumption) ?r2e11; simp only [Act.put, List.setIfInBounds_toArray, List.set_cons_zero, List.set_cons_succ])
                              first
                                | (refine wpAnyH_take (i := 12) (oi := { dst := _, op := _, type := _, pos := _, after := _, guard := _ }) (v := ?v2e12) rfl (by kernel_rfl) (by kernel_rfl) (by kernel_rfl) (fun _ _ _ h => leaves_put 6 rfl (by decide) h) (Or.inl ⟨by rfl, ?y2e12⟩) (by assumption) ?r2e12; (case y2e12 => intro w hSw; go_simp <;> with_reducible rfl); simp only [Act.put, List.setIfInBounds_toArray, List.set_cons_zero, List.set_cons_succ])
                                | (refine wpAnyH_take (i := 12) (oi := { dst := _, op := _, type := _, pos := _, after := _, guard := _ }) (v := undef) rfl (by kernel_rfl) (by kernel_rfl) (by kernel_rfl) (fun _ _ _ h => leaves_put 6 rfl (by decide) h) (Or.inr ⟨by rfl, rfl⟩) (by assumption) ?r2e12; simp only [Act.put, List.setIfInBounds_toArray, List.set_cons_zero, List.set_cons_succ])
                              first
                                | (refine wpAnyH_take (i := 13) (oi := { dst := _, op := _, type := _, pos := _, after := _, guard := _ }) (v := ?v2e13) rfl (by kernel_rfl) (by kernel_rfl) (by kernel_rfl) (fun _ _ _ h => leaves_put 6 rfl (by decide) h) (Or.inl ⟨by rfl, ?y2e13⟩) (by assumption) ?r2e13; (case y2e13 => intro w hSw; go_simp <;> with_reducible rfl); simp only [Act.put, List.setIfInBounds_toArray, List.set_cons_zero, List.set_cons_succ])
                                | (refine wpAnyH_take (i := 13) (oi := { dst := _, op := _, type := _, pos := _, after := _, guard := _ }) (v := undef) rfl (by kernel_rfl) (by kernel_rfl) (by kernel_rfl) (fun _ _ _ h => leaves_put 6 rfl (by decide) h) (Or.inr ⟨by rfl, rfl⟩) (by assumption) ?r2e13; simp only [Act.put, List.setIfInBounds_toArray, List.set_cons_zero, List.set_cons_succ])
                              first
                                | (refine wpAnyH_take (i := 14) (oi := { dst := _, op := _, type := _, pos := _, after := _, guard := _ }) (v := ?v2e14) rfl (by kernel_rfl) (by kernel_rfl) (by kernel_rfl) (fun _ _ _ h => leaves_put 6 rfl (by decide) h) (Or.inl ⟨by rfl, ?y2e14⟩) (by assumption) ?r2e14; (case y2e14 => intro w hSw; go_simp <;> with_reducible rfl); simp only [Act.put, List.setIfInBounds_toArray, List.set_cons_zero, List.set_cons_succ])
                                | (refine wpAnyH_take (i := 14) (oi := { dst := _, op := _, type := _, pos := _, after := _, guard := _ }) (v := undef) rfl (by kernel_rfl) (by kernel_rfl) (by kernel_rfl) (fun _ _ _ h => leaves_put 6 rfl (by decide) h) (Or.inr ⟨by rfl, rfl⟩) (by assumption) ?r2e14; simp only [Act.put, List.setIfInBounds_toArray, List.set_cons_zero, List.set_cons_succ])
                              first
                                | (refine wpAnyH_take (i := 15) (oi := { dst := _, op := _, type := _, pos := _, after := _, guard := _ }) (v := ?v2e15) rfl (by kernel_rfl) (by kernel_rfl) (by kernel_rfl) (fun _ _ _ h => leaves_put 6 rfl (by decide) h) (Or.inl ⟨by rfl, ?y2e15⟩) (by assumption) ?r2e15; (case y2e15 => intro w hSw; go_simp <;> with_reducible rfl); simp only [Act.put, List.setIfInBounds_toArray, List.set_cons_zero, List.set_cons_succ])
                                | (refine wpAnyH_take (i := 15) (oi := { dst := _, op := _, type := _, pos := _, after := _, guard := _ }) (v := undef) rfl (by kernel_rfl) (by kernel_rfl) (by kernel_rfl) (fun _ _ _ h => leaves_put 6 rfl (by decide) h) (Or.inr ⟨by rfl, rfl⟩) (by assumption) ?r2e15; simp only [Act.put, List.setIfInBounds_toArray, List.set_cons_zero, List.set_cons_succ])
                              first
                                | (refine wpAnyH_take (i := 16) (oi := { dst := _, op := _, type := _, pos := _, after := _, guard := _ }) (v := ?v2e16) rfl (by kernel_rfl) (by kernel_rfl) (by kernel_rfl) (fun _ _ _ h => leaves_put 6 rfl (by decide) h) (Or.inl ⟨by rfl, ?y2e16⟩) (by assumption) ?r2e16; (case y2e16 => intro w hSw; go_simp <;> with_reducible rfl); simp only [Act.put, List.setIfInBounds_toArray, List.set_cons_zero, List.set_cons_succ])
                                | (refine wpAnyH_take (i := 16) (oi := { dst := _, op := _, type := _, pos := _, after := _, guard := _ }) (v := undef) rfl (by kernel_rfl) (by kernel_rfl) (by kernel_rfl) (fun _ _ _ h => leaves_put 6 rfl (by decide) h) (Or.inr ⟨by rfl, rfl⟩) (by assumption) ?r2e16; simp only [Act.put, List.setIfInBounds_toArray, List.set_cons_zero, List.set_cons_succ])
                              first
                                | (refine wpAnyH_take (i := 17) (oi := { dst := _, op := _, type := _, pos := _, after := _, guard := _ }) (v := ?v2e17) rfl (by kernel_rfl) (by kernel_rfl) (by kernel_rfl) (fun _ _ _ h => leaves_put 6 rfl (by decide) h) (Or.inl ⟨by rfl, ?y2e17⟩) (by assumption) ?r2e17; (case y2e17 => intro w hSw; go_simp <;> with_reducible rfl); simp only [Act.put, List.setIfInBounds_toArray, List.set_cons_zero, List.set_cons_succ])
                                | (refine wpAnyH_take (i := 17) (oi := { dst := _, op := _, type := _, pos := _, after := _, guard := _ }) (v := undef) rfl (by kernel_rfl) (by kernel_rfl) (by kernel_rfl) (fun _ _ _ h => leaves_put 6 rfl (by decide) h) (Or.inr ⟨by rfl, rfl⟩) (by assumption) ?r2e17; simp only [Act.put, List.setIfInBounds_toArray, List.set_cons_zero, List.set_cons_succ])
                              first
                                | (refine wpAnyH_take (i := 18) (oi := { dst := _, op := _, type := _, pos := _, after := _, guard := _ }) (v := ?v2e18) rfl (by kernel_rfl) (by kernel_rfl) (by kernel_rfl) (fun _ _ _ h => leaves_put 6 rfl (by decide) h) (Or.inl ⟨by rfl, ?y2e18⟩) (by assumption) ?r2e18; (case y2e18 => intro w hSw; go_simp <;> with_reducible rfl); simp only [Act.put, List.setIfInBounds_toArray, List.set_cons_zero, List.set_cons_succ])
                                | (refine wpAnyH_take (i := 18) (oi := { dst := _, op := _, type := _, pos := _, after := _, guard := _ }) (v := undef) rfl (by kernel_rfl) (by kernel_rfl) (by kernel_rfl) (fun _ _ _ h => leaves_put 6 rfl (by decide) h) (Or.inr ⟨by rfl, rfl⟩) (by assumption) ?r2e18; simp only [Act.put, List.setIfInBounds_toArray, List.set_cons_zero, List.set_cons_succ])
                              first
                                | (refine wpAnyH_take (i := 19) (oi := { dst := _, op := _, type := _, pos := _, after := _, guard := _ }) (v := ?v2e19) rfl (by kernel_rfl) (by kernel_rfl) (by kernel_rfl) (fun _ _ _ h => leaves_put 6 rfl (by decide) h) (Or.inl ⟨by rfl, ?y2e19⟩) (by assumption) ?r2e19; (case y2e19 => intro w hSw; go_simp <;> with_reducible rfl); simp only [Act.put, List.setIfInBounds_toArray, List.set_cons_zero, List.set_cons_succ])
                                | (refine wpAnyH_take (i := 19) (oi := { dst := _, op := _, type := _, pos := _, after := _, guard := _ }) (v := undef) rfl (by kernel_rfl) (by kernel_rfl) (by kernel_rfl) (fun _ _ _ h => leaves_put 6 rfl (by decide) h) (Or.inr ⟨by rfl, rfl⟩) (by assumption) ?r2e19; simp only [Act.put, List.setIfInBounds_toArray, List.set_cons_zero, List.set_cons_succ])
                              first
                                | (refine wpAnyH_take (i := 20) (oi := { dst := _, op := _, type := _, pos := _, after := _, guard := _ }) (v := ?v2e20) rfl (by kernel_rfl) (by kernel_rfl) (by kernel_rfl) (fun _ _ _ h => leaves_put 6 rfl (by decide) h) (Or.inl ⟨by rfl, ?y2e20⟩) (by assumption) ?r2e20; (case y2e20 => intro w hSw; go_simp <;> with_reducible rfl); simp only [Act.put, List.setIfInBounds_toArray, List.set_cons_zero, List.set_cons_succ])
                                | (refine wpAnyH_take (i := 20) (oi := { dst := _, op := _, type := _, pos := _, after := _, guard := _ }) (v := undef) rfl (by kernel_rfl) (by kernel_rfl) (by kernel_rfl) (fun _ _ _ h => leaves_put 6 rfl (by decide) h) (Or.inr ⟨by rfl, rfl⟩) (by assumption) ?r2e20; simp only [Act.put, List.setIfInBounds_toArray, List.set_cons_zero, List.set_cons_succ])
                              first
                                | (refine wpAnyH_take (i := 21) (oi := { dst := _, op := _, type := _, pos := _, after := _, guard := _ }) (v := ?v2e21) rfl (by kernel_rfl) (by kernel_rfl) (by kernel_rfl) (fun _ _ _ h => leaves_put 6 rfl (by decide) h) (Or.inl ⟨by rfl, ?y2e21⟩) (by assumption) ?r2e21; (case y2e21 => intro w hSw; go_simp <;> with_reducible rfl); simp only [Act.put, List.setIfInBounds_toArray, List.set_cons_zero, List.set_cons_succ])
                                | (refine wpAnyH_take (i := 21) (oi := { dst := _, op := _, type := _, pos := _, after := _, guard := _ }) (v := undef) rfl (by kernel_rfl) (by kernel_rfl) (by kernel_rfl) (fun _ _ _ h => leaves_put 6 rfl (by decide) h) (Or.inr ⟨by rfl, rfl⟩) (by assumption) ?r2e21; simp only [Act.put, List.setIfInBounds_toArray, List.set_cons_zero, List.set_cons_succ])
                              first
                                | (refine wpAnyH_take (i := 22) (oi := { dst := _, op := _, type := _, pos := _, after := _, guard := _ }) (v := ?v2e22) rfl (by kernel_rfl) (by kernel_rfl) (by kernel_rfl) (fun _ _ _ h => leaves_put 6 rfl (by decide) h) (Or.inl ⟨by rfl, ?y2e22⟩) (by assumption) ?r2e22; (case y2e22 => intro w hSw; go_simp <;> with_reducible rfl); simp only [Act.put, List.setIfInBounds_toArray, List.set_cons_zero, List.set_cons_succ])
                                | (refine wpAnyH_take (i := 22) (oi := { dst := _, op := _, type := _, pos := _, after := _, guard := _ }) (v := undef) rfl (by kernel_rfl) (by kernel_rfl) (by kernel_rfl) (fun _ _ _ h => leaves_put 6 rfl (by decide) h) (Or.inr ⟨by rfl, rfl⟩) (by assumption) ?r2e22; simp only [Act.put, List.setIfInBounds_toArray, List.set_cons_zero, List.set_cons_succ])
                              first
                                | (refine wpAnyH_take (i := 23) (oi := { dst := _, op := _, type := _, pos := _, after := _, guard := _ }) (v := ?v2e23) rfl (by kernel_rfl) (by kernel_rfl) (by kernel_rfl) (fun _ _ _ h => leaves_put 6 rfl (by decide) h) (Or.inl ⟨by rfl, ?y2e23⟩) (by assumption) ?r2e23; (case y2e23 => intro w hSw; go_simp <;> with_reducible rfl); simp only [Act.put, List.setIfInBounds_toArray, List.set_cons_zero, List.set_cons_succ])
                                | (refine wpAnyH_take (i := 23) (oi := { dst := _, op := _, type := _, pos := _, after := _, guard := _ }) (v := undef) rfl (by kernel_rfl) (by kernel_rfl) (by kernel_rfl) (fun _ _ _ h => leaves_put 6 rfl (by decide) h) (Or.inr ⟨by rfl, rfl⟩) (by assumption) ?r2e23; simp only [Act.put, List.setIfInBounds_toArray, List.set_cons_zero, List.set_cons_succ])
                              first
                                | (refine wpAnyH_take (i := 24) (oi := { dst := _, op := _, type := _, pos := _, after := _, guard := _ }) (v := ?v2e24) rfl (by kernel_rfl) (by kernel_rfl) (by kernel_rfl) (fun _ _ _ h => leaves_put 6 rfl (by decide) h) (Or.inl ⟨by rfl, ?y2e24⟩) (by assumption) ?r2e24; (case y2e24 => intro w hSw; go_simp <;> with_reducible rfl); simp only [Act.put, List.setIfInBounds_toArray, List.set_cons_zero, List.set_cons_succ])
                                | (refine wpAnyH_take (i := 24) (oi := { dst := _, op := _, type := _, pos := _, after := _, guard := _ }) (v := undef) rfl (by kernel_rfl) (by kernel_rfl) (by kernel_rfl) (fun _ _ _ h => leaves_put 6 rfl (by decide) h) (Or.inr ⟨by rfl, rfl⟩) (by assumption) ?r2e24; simp only [Act.put, List.setIfInBounds_toArray, List.set_cons_zero, List.set_cons_succ])
                              first
                                | (refine wpAnyH_take (i := 25) (oi := { dst := _, op := _, type := _, pos := _, after := _, guard := _ }) (v := ?v2e25) rfl (by kernel_rfl) (by kernel_rfl) (by kernel_rfl) (fun _ _ _ h => leaves_put 6 rfl (by decide) h) (Or.inl ⟨by rfl, ?y2e25⟩) (by assumption) ?r2e25; (case y2e25 => intro w hSw; go_simp <;> with_reducible rfl); simp only [Act.put, List.setIfInBounds_toArray, List.set_cons_zero, List.set_cons_succ])
                                | (refine wpAnyH_take (i := 25) (oi := { dst := _, op := _, type := _, pos := _, after := _, guard := _ }) (v := undef) rfl (by kernel_rfl) (by kernel_rfl) (by kernel_rfl) (fun _ _ _ h => leaves_put 6 rfl (by decide) h) (Or.inr ⟨by rfl, rfl⟩) (by assumption) ?r2e25; simp only [Act.put, List.setIfInBounds_toArray, List.set_cons_zero, List.set_cons_succ])
                              first
                                | (refine wpAnyH_take (i := 26) (oi := { dst := _, op := _, type := _, pos := _, after := _, guard := _ }) (v := ?v2e26) rfl (by kernel_rfl) (by kernel_rfl) (by kernel_rfl) (fun _ _ _ h => leaves_put 6 rfl (by decide) h) (Or.inl ⟨by rfl, ?y2e26⟩) (by assumption) ?r2e26; (case y2e26 => intro w hSw; go_simp <;> with_reducible rfl); simp only [Act.put, List.setIfInBounds_toArray, List.set_cons_zero, List.set_cons_succ])
                                | (refine wpAnyH_take (i := 26) (oi := { dst := _, op := _, type := _, pos := _, after := _, guard := _ }) (v := undef) rfl (by kernel_rfl) (by kernel_rfl) (by kernel_rfl) (fun _ _ _ h => leaves_put 6 rfl (by decide) h) (Or.inr ⟨by rfl, rfl⟩) (by assumption) ?r2e26; simp only [Act.put, List.setIfInBounds_toArray, List.set_cons_zero, List.set_cons_succ])
                              first
                                | (refine wpAnyH_take (i := 27) (oi := { dst := _, op := _, type := _, pos := _, after := _, guard := _ }) (v := ?v2e27) rfl (by kernel_rfl) (by kernel_rfl) (by kernel_rfl) (fun _ _ _ h => leaves_put 6 rfl (by decide) h) (Or.inl ⟨by rfl, ?y2e27⟩) (by assumption) ?r2e27; (case y2e27 => intro w hSw; go_simp <;> with_reducible rfl); simp only [Act.put, List.setIfInBounds_toArray, List.set_cons_zero, List.set_cons_succ])
                                | (refine wpAnyH_take (i := 27) (oi := { dst := _, op := _, type := _, pos := _, after := _, guard := _ }) (v := undef) rfl (by kernel_rfl) (by kernel_rfl) (by kernel_rfl) (fun _ _ _ h => leaves_put 6 rfl (by decide) h) (Or.inr ⟨by rfl, rfl⟩) (by assumption) ?r2e27; simp only [Act.put, List.setIfInBounds_toArray, List.set_cons_zero, List.set_cons_succ])
                              first
                                | (refine wpAnyH_take (i := 28) (oi := { dst := _, op := _, type := _, pos := _, after := _, guard := _ }) (v := ?v2e28) rfl (by kernel_rfl) (by kernel_rfl) (by kernel_rfl) (fun _ _ _ h => leaves_put 6 rfl (by decide) h) (Or.inl ⟨by rfl, ?y2e28⟩) (by assumption) ?r2e28; (case y2e28 => intro w hSw; go_simp <;> with_reducible rfl); simp only [Act.put, List.setIfInBounds_toArray, List.set_cons_zero, List.set_cons_succ])
                                | (refine wpAnyH_take (i := 28) (oi := { dst := _, op := _, type := _, pos := _, after := _, guard := _ }) (v := undef) rfl (by kernel_rfl) (by kernel_rfl) (by kernel_rfl) (fun _ _ _ h => leaves_put 6 rfl (by decide) h) (Or.inr ⟨by rfl, rfl⟩) (by assumption) ?r2e28; simp only [Act.put, List.setIfInBounds_toArray, List.set_cons_zero, List.set_cons_succ])
                              first
                                | (refine wpAnyH_take (i := 29) (oi := { dst := _, op := _, type := _, pos := _, after := _, guard := _ }) (v := ?v2e29) rfl (by kernel_rfl) (by kernel_rfl) (by kernel_rfl) (fun _ _ _ h => leaves_put 6 rfl (by decide) h) (Or.inl ⟨by rfl, ?y2e29⟩) (by assumption) ?r2e29; (case y2e29 => intro w hSw; go_simp <;> with_reducible rfl); simp only [Act.put, List.setIfInBounds_toArray, List.set_cons_zero, List.set_cons_succ])
                                | (refine wpAnyH_take (i := 29) (oi := { dst := _, op := _, type := _, pos := _, after := _, guard := _ }) (v := undef) rfl (by kernel_rfl) (by kernel_rfl) (by kernel_rfl) (fun _ _ _ h => leaves_put 6 rfl (by decide) h) (Or.inr ⟨by rfl, rfl⟩) (by assumption) ?r2e29; simp only [Act.put, List.setIfInBounds_toArray, List.set_cons_zero, List.set_cons_succ])
                              first
                                | (refine wpAnyH_take (i := 30) (oi := { dst := _, op := _, type := _, pos := _, after := _, guard := _ }) (v := ?v2e30) rfl (by kernel_rfl) (by kernel_rfl) (by kernel_rfl) (fun _ _ _ h => leaves_put 6 rfl (by decide) h) (Or.inl ⟨by rfl, ?y2e30⟩) (by assumption) ?r2e30; (case y2e30 => intro w hSw; go_simp <;> with_reducible rfl); simp only [Act.put, List.setIfInBounds_toArray, List.set_cons_zero, List.set_cons_succ])
                                | (refine wpAnyH_take (i := 30) (oi := { dst := _, op := _, type := _, pos := _, after := _, guard := _ }) (v := undef) rfl (by kernel_rfl) (by kernel_rfl) (by kernel_rfl) (fun _ _ _ h => leaves_put 6 rfl (by decide) h) (Or.inr ⟨by rfl, rfl⟩) (by assumption) ?r2e30; simp only [Act.put, List.setIfInBounds_toArray, List.set_cons_zero, List.set_cons_succ])
                              have cR := P9.res.cell
                              have fR := P9.res.froz
                              refine wpAnyH_ready (rs := [31]) (by kernel_rfl) (by simp) ?_
                              have hD := hK
                              clear hK
                              refine AllReadyH.cons (o := { dst := _, op := _, type := _, pos := _, after := _, guard := _ }) rfl (fun K hK => ?_) AllReadyH.nil
                              rw [if_pos (show Region.wanted _ _ = true from rfl)]
                              go_simp
                              refine hK.out _ _ (Off.setCell s0 (a := ⟨N + 1, 0, none⟩) ⟨4, by simp, P9.res.ty⟩ _) (fun _ => ?_)
                              clear hK K
                              refine wpAnyH_done (by kernel_rfl) ?_ _
                              go_wp2_with fail
                              all_goals
                                have q1 : (W12.setCell ⟨N + 1, 0, none⟩ (.bool true)).drew.heap[D]? = some (.deferred (some [])) := by
                                  show (W12.setCell ⟨N + 1, 0, none⟩ (.bool true)).heap[D]? = _
                                  rw [Below.heap_setCell _ _ _ _ (by simp; omega)]; exact hD
                                have R2 := P9.res.set (.bool true)
                                have hBf := (P9.bel.setCell (p := ⟨N + 1, 0, none⟩) (by show N ≤ N + 1; omega) (.bool true)).drew
                                have hbD := Below.putObj (Below.refl (N + 2) (W12.setCell ⟨N + 1, 0, none⟩ (.bool true)).drew) (l := D) (by omega) (.deferred none)
                                have m6 := ((R2.keep (Below.refl _ _).drew).keepAt hbD (by omega)).cell
                                refine ⟨by simp, .inl ⟨_, _, rfl, run_takeDeferred q1, ?_⟩⟩
                                refine ⟨.bool true, ?_, rfl, hBf.trans (hbD.mono (by omega))⟩
                                simp [results, Try.results8, go_sem, m6]
                            · as_aux_lemma =>
                              obtain ⟨m, hm⟩ : ∃ m, L.length = m + 1 := ⟨L.length - 1, by omega⟩
                              have hm64 : (m : Int) ≤ 63 := by omega
                              have hwm := wrapNat m hm64
                              have hml1 : (m : Int) < (m : Int) + 1 := by omega
                              have hml2 : (m : Int) < ((m + 1 : Nat) : Int) := by omega
                              have hml0 : ¬ ((m : Int) < 0) := by omega
                              have hy := List.getElem?_eq_getElem (l := L) (i := m) (by omega)
                              generalize L[m] = y at *
                              have hrm : rs[m]? = some y.rule := by rw [← hrs, List.getElem?_map, hy]; rfl
                              rw [hm] at P9 ⊢
                              go_wp2_with fail
                              refine (rule_at b v L last m y (by omega) hy W P9.watch).mono ?_
                              rintro e W10 ⟨rfl, hc⟩
                              replace P9 := P9.keep hc
                              replace C9 := C9.keep hc
                              replace hK := (hc.block D (Array.getElem?_eq_some_iff.1 hK).1).trans hK
                              clear hc
                              unfold ruleV
                              go_wp2_with fail
                              have hc := Below.al (Below.refl W10.heap.size W10) (.cells #[.int .u8 y.rule.kind, .int .u64 y.rule.job, .int .i64 y.rule.n] 34)
                              have R9 := RuleAt.new W10 34 y.rule W10.heap.size rfl
                              replace P9 := P9.keep hc
                              replace C9 := C9.keep hc
                              replace hK := (hc.block D (Array.getElem?_eq_some_iff.1 hK).1).trans hK
                              clear hc
                              refine (rule_bad b v L last ((m : Int) + 1) (by omega) (.inr ⟨by omega, by omega⟩) _ P9.watch).mono ?_
                              rintro e W11 ⟨rfl, hc⟩
                              replace P9 := P9.keep hc
                              replace C9 := C9.keep hc
                              replace hK := (hc.block D (Array.getElem?_eq_some_iff.1 hK).1).trans hK
                              replace R9 := R9.keep hc
                              clear hc
                              unfold ruleV
                              go_upto_region 76 with fail
                              have hc := Below.al (Below.refl W11.heap.size W11) (.cells #[.int .u8 0, .int .u64 0, .int .i64 0] 34)
                              replace P9 := P9.keep hc
                              replace C9 := C9.keep hc
                              replace hK := (hc.block D (Array.getElem?_eq_some_iff.1 hK).1).trans hK
                              replace R9 := R9.keep hc
                              clear hc
                              generalize W11.alloc (.cells #[.int .u8 0, .int .u64 0, .int .i64 0] 34) = W12 at *
                              refine wp_region_held_drew (S := fun w' => OffT [4] W12 w') (by kernel_rfl) (Off.refl _ W12).drew (fun _ => ?_)
                              have s0 : OffT [4] W12 W12.drew := (Off.refl _ W12).drew
                              have e0 := fun w' (h : OffT [4] W12 w') => (h.num C9 (by decide)).cell
                              have e1 := fun w' (h : OffT [4] W12 w') => (h.num P9.lft (by decide)).cell
                              have hrn : rs.length = m + 1 := by omega
                              obtain ⟨go, gc, hgv, -, -⟩ := ownN_row P9.own (by omega)
                              obtain ⟨rfl, -, rfl⟩ : oo = some ⟨go, 0, none⟩ ∧ m + 1 = rs.length ∧ oc = gc := by simpa using hgv
                              clear hgv
                              have e2 := fun w' (h : OffT [4] W12 w') => (h.rule R9 (by decide)).facts.1
                              have e3 := fun w' (h : OffT [4] W12 w') => (h.rule R9 (by decide)).facts.2.1
                              have e4 := fun w' (h : OffT [4] W12 w') => (h.rule R9 (by decide)).facts.2.2
                              have e5 := fun w' (h : OffT [4] W12 w') => ownRule (h.row P9.own (by decide)) hrm hrn
                              have e6 := fun w' h => (e5 w' h).1
                              have e7 := fun w' h => (e5 w' h).2.1
                              have e8 := fun w' h => (e5 w' h).2.2
                              clear e5
                              first
                                | (refine wpAnyH_take (i := 0) (oi := { dst := _, op := _, type := _, pos := _, after := _, guard := _ }) (v := ?v2f0) rfl (by kernel_rfl) (by kernel_rfl) (by kernel_rfl) (fun _ _ _ h => leaves_put 6 rfl (by decide) h) (Or.inl ⟨by rfl, ?y2f0⟩) (by assumption) ?r2f0; (case y2f0 => intro w hSw; go_simp <;> with_reducible rfl); simp only [Act.put, List.setIfInBounds_toArray, List.set_cons_zero, List.set_cons_succ])
                                | (refine wpAnyH_take (i := 0) (oi := { dst := _, op := _, type := _, pos := _, after := _, guard := _ }) (v := undef) rfl (by kernel_rfl) (by kernel_rfl) (by kernel_rfl) (fun _ _ _ h => leaves_put 6 rfl (by decide) h) (Or.inr ⟨by rfl, rfl⟩) (by assumption) ?r2f0; simp only [Act.put, List.setIfInBounds_toArray, List.set_cons_zero, List.set_cons_succ])
                              first
                                | (refine wpAnyH_take (i := 1) (oi := { dst := _, op := _, type := _, pos := _, after := _, guard := _ }) (v := ?v2f1) rfl (by kernel_rfl) (by kernel_rfl) (by kernel_rfl) (fun _ _ _ h => leaves_put 6 rfl (by decide) h) (Or.inl ⟨by rfl, ?y2f1⟩) (by assumption) ?r2f1; (case y2f1 => intro w hSw; go_simp <;> with_reducible rfl); simp only [Act.put, List.setIfInBounds_toArray, List.set_cons_zero, List.set_cons_succ])
                                | (refine wpAnyH_take (i := 1) (oi := { dst := _, op := _, type := _, pos := _, after := _, guard := _ }) (v := undef) rfl (by kernel_rfl) (by kernel_rfl) (by kernel_rfl) (fun _ _ _ h => leaves_put 6 rfl (by decide) h) (Or.inr ⟨by rfl, rfl⟩) (by assumption) ?r2f1; simp only [Act.put, List.setIfInBounds_toArray, List.set_cons_zero, List.set_cons_succ])
                              first
                                | (refine wpAnyH_take (i := 2) (oi := { dst := _, op := _, type := _, pos := _, after := _, guard := _ }) (v := ?v2f2) rfl (by kernel_rfl) (by kernel_rfl) (by kernel_rfl) (fun _ _ _ h => leaves_put 6 rfl (by decide) h) (Or.inl ⟨by rfl, ?y2f2⟩) (by assumption) ?r2f2; (case y2f2 => intro w hSw; go_simp <;> with_reducible rfl); simp only [Act.put, List.setIfInBounds_toArray, List.set_cons_zero, List.set_cons_succ])
                                | (refine wpAnyH_take (i := 2) (oi := { dst := _, op := _, type := _, pos := _, after := _, guard := _ }) (v := undef) rfl (by kernel_rfl) (by kernel_rfl) (by kernel_rfl) (fun _ _ _ h => leaves_put 6 rfl (by decide) h) (Or.inr ⟨by rfl, rfl⟩) (by assumption) ?r2f2; simp only [Act.put, List.setIfInBounds_toArray, List.set_cons_zero, List.set_cons_succ])
                              first
                                | (refine wpAnyH_take (i := 3) (oi := { dst := _, op := _, type := _, pos := _, after := _, guard := _ }) (v := ?v2f3) rfl (by kernel_rfl) (by kernel_rfl) (by kernel_rfl) (fun _ _ _ h => leaves_put 6 rfl (by decide) h) (Or.inl ⟨by rfl, ?y2f3⟩) (by assumption) ?r2f3; (case y2f3 => intro w hSw; go_simp <;> with_reducible rfl); simp only [Act.put, List.setIfInBounds_toArray, List.set_cons_zero, List.set_cons_succ])
                                | (refine wpAnyH_take (i := 3) (oi := { dst := _, op := _, type := _, pos := _, after := _, guard := _ }) (v := undef) rfl (by kernel_rfl) (by kernel_rfl) (by kernel_rfl) (fun _ _ _ h => leaves_put 6 rfl (by decide) h) (Or.inr ⟨by rfl, rfl⟩) (by assumption) ?r2f3; simp only [Act.put, List.setIfInBounds_toArray, List.set_cons_zero, List.set_cons_succ])
                              first
                                | (refine wpAnyH_take (i := 4) (oi := { dst := _, op := _, type := _, pos := _, after := _, guard := _ }) (v := ?v2f4) rfl (by kernel_rfl) (by kernel_rfl) (by kernel_rfl) (fun _ _ _ h => leaves_put 6 rfl (by decide) h) (Or.inl ⟨by rfl, ?y2f4⟩) (by assumption) ?r2f4; (case y2f4 => intro w hSw; go_simp <;> with_reducible rfl); simp only [Act.put, List.setIfInBounds_toArray, List.set_cons_zero, List.set_cons_succ])
                                | (refine wpAnyH_take (i := 4) (oi := { dst := _, op := _, type := _, pos := _, after := _, guard := _ }) (v := undef) rfl (by kernel_rfl) (by kernel_rfl) (by kernel_rfl) (fun _ _ _ h => leaves_put 6 rfl (by decide) h) (Or.inr ⟨by rfl, rfl⟩) (by assumption) ?r2f4; simp only [Act.put, List.setIfInBounds_toArray, List.set_cons_zero, List.set_cons_succ])
                              first
                                | (refine wpAnyH_take (i := 5) (oi := { dst := _, op := _, type := _, pos := _, after := _, guard := _ }) (v := ?v2f5) rfl (by kernel_rfl) (by kernel_rfl) (by kernel_rfl) (fun _ _ _ h => leaves_put 6 rfl (by decide) h) (Or.inl ⟨by rfl, ?y2f5⟩) (by assumption) ?r2f5; (case y2f5 => intro w hSw; go_simp <;> with_reducible rfl); simp only [Act.put, List.setIfInBounds_toArray, List.set_cons_zero, List.set_cons_succ])
                                | (refine wpAnyH_take (i := 5) (oi := { dst := _, op := _, type := _, pos := _, after := _, guard := _ }) (v := undef) rfl (by kernel_rfl) (by kernel_rfl) (by kernel_rfl) (fun _ _ _ h => leaves_put 6 rfl (by decide) h) (Or.inr ⟨by rfl, rfl⟩) (by assumption) ?r2f5; simp only [Act.put, List.setIfInBounds_toArray, List.set_cons_zero, List.set_cons_succ])
                              first
                                | (refine wpAnyH_take (i := 6) (oi := { dst := _, op := _, type := _, pos := _, after := _, guard := _ }) (v := ?v2f6) rfl (by kernel_rfl) (by kernel_rfl) (by kernel_rfl) (fun _ _ _ h => leaves_put 6 rfl (by decide) h) (Or.inl ⟨by rfl, ?y2f6⟩) (by assumption) ?r2f6; (case y2f6 => intro w hSw; go_simp <;> with_reducible rfl); simp only [Act.put, List.setIfInBounds_toArray, List.set_cons_zero, List.set_cons_succ])
                                | (refine wpAnyH_take (i := 6) (oi := { dst := _, op := _, type := _, pos := _, after := _, guard := _ }) (v := undef) rfl (by kernel_rfl) (by kernel_rfl) (by kernel_rfl) (fun _ _ _ h => leaves_put 6 rfl (by decide) h) (Or.inr ⟨by rfl, rfl⟩) (by assumption) ?r2f6; simp only [Act.put, List.setIfInBounds_toArray, List.set_cons_zero, List.set_cons_succ])
                              first
                                | (refine wpAnyH_take (i := 7) (oi := { dst := _, op := _, type := _, pos := _, after := _, guard := _ }) (v := ?v2f7) rfl (by kernel_rfl) (by kernel_rfl) (by kernel_rfl) (fun _ _ _ h => leaves_put 6 rfl (by decide) h) (Or.inl ⟨by rfl, ?y2f7⟩) (by assumption) ?r2f7; (case y2f7 => intro w hSw; go_simp <;> with_reducible rfl); simp only [Act.put, List.setIfInBounds_toArray, List.set_cons_zero, List.set_cons_succ])
                                | (refine wpAnyH_take (i := 7) (oi := { dst := _, op := _, type := _, pos := _, after := _, guard := _ }) (v := undef) rfl (by kernel_rfl) (by kernel_rfl) (by kernel_rfl) (fun _ _ _ h => leaves_put 6 rfl (by decide) h) (Or.inr ⟨by rfl, rfl⟩) (by assumption) ?r2f7; simp only [Act.put, List.setIfInBounds_toArray, List.set_cons_zero, List.set_cons_succ])
                              first
                                | (refine wpAnyH_take (i := 8) (oi := { dst := _, op := _, type := _, pos := _, after := _, guard := _ }) (v := ?v2f8) rfl (by kernel_rfl) (by kernel_rfl) (by kernel_rfl) (fun _ _ _ h => leaves_put 6 rfl (by decide) h) (Or.inl ⟨by rfl, ?y2f8⟩) (by assumption) ?r2f8; (case y2f8 => intro w hSw; go_simp <;> with_reducible rfl); simp only [Act.put, List.setIfInBounds_toArray, List.set_cons_zero, List.set_cons_succ])
                                | (refine wpAnyH_take (i := 8) (oi := { dst := _, op := _, type := _, pos := _, after := _, guard := _ }) (v := undef) rfl (by kernel_rfl) (by kernel_rfl) (by kernel_rfl) (fun _ _ _ h => leaves_put 6 rfl (by decide) h) (Or.inr ⟨by rfl, rfl⟩) (by assumption) ?r2f8; simp only [Act.put, List.setIfInBounds_toArray, List.set_cons_zero, List.set_cons_succ])
                              first
                                | (refine wpAnyH_take (i := 9) (oi := { dst := _, op := _, type := _, pos := _, after := _, guard := _ }) (v := ?v2f9) rfl (by kernel_rfl) (by kernel_rfl) (by kernel_rfl) (fun _ _ _ h => leaves_put 6 rfl (by decide) h) (Or.inl ⟨by rfl, ?y2f9⟩) (by assumption) ?r2f9; (case y2f9 => intro w hSw; go_simp <;> with_reducible rfl); simp only [Act.put, List.setIfInBounds_toArray, List.set_cons_zero, List.set_cons_succ])
                                | (refine wpAnyH_take (i := 9) (oi := { dst := _, op := _, type := _, pos := _, after := _, guard := _ }) (v := undef) rfl (by kernel_rfl) (by kernel_rfl) (by kernel_rfl) (fun _ _ _ h => leaves_put 6 rfl (by decide) h) (Or.inr ⟨by rfl, rfl⟩) (by assumption) ?r2f9; simp only [Act.put, List.setIfInBounds_toArray, List.set_cons_zero, List.set_cons_succ])
                              first
                                | (refine wpAnyH_take (i := 10) (oi := { dst := _, op := _, type := _, pos := _, after := _, guard := _ }) (v := ?v2f10) rfl (by kernel_rfl) (by kernel_rfl) (by kernel_rfl) (fun _ _ _ h => leaves_put 6 rfl (by decide) h) (Or.inl ⟨by rfl, ?y2f10⟩) (by assumption) ?r2f10; (case y2f10 => intro w hSw; go_simp <;> with_reducible rfl); simp only [Act.put, List.setIfInBounds_toArray, List.set_cons_zero, List.set_cons_succ])
                                | (refine wpAnyH_take (i := 10) (oi := { dst := _, op := _, type := _, pos := _, after := _, guard := _ }) (v := undef) rfl (by kernel_rfl) (by kernel_rfl) (by kernel_rfl) (fun _ _ _ h => leaves_put 6 rfl (by decide) h) (Or.inr ⟨by rfl, rfl⟩) (by assumption) ?r2f10; simp only [Act.put, List.setIfInBounds_toArray, List.set_cons_zero, List.set_cons_succ])
                              first
                                | (refine wpAnyH_take (i := 11) (oi := { dst := _, op := _, type := _, pos := _, after := _, guard := _ }) (v := ?v2f11) rfl (by kernel_rfl) (by kernel_rfl) (by kernel_rfl) (fun _ _ _ h => leaves_put 6 rfl (by decide) h) (Or.inl ⟨by rfl, ?y2f11⟩) (by assumption) ?r2f11; (case y2f11 => intro w hSw; go_simp <;> with_reducible rfl); simp only [Act.put, List.setIfInBounds_toArray, List.set_cons_zero, List.set_cons_succ])
                                | (refine wpAnyH_take (i := 11) (oi := { dst := _, op := _, type := _, pos := _, after := _, guard := _ }) (v := undef) rfl (by kernel_rfl) (by kernel_rfl) (by kernel_rfl) (fun _ _ _ h => leaves_put 6 rfl (by decide) h) (Or.inr ⟨by rfl, rfl⟩) (by assumption) ?r2f11; simp only [Act.put, List.setIfInBounds_toArray, List.set_cons_zero, List.set_cons_succ])
                              first
                                | (refine wpAnyH_take (i := 12) (oi := { dst := _, op := _, type := _, pos := _, after := _, guard := _ }) (v := ?v2f12) rfl (by kernel_rfl) (by kernel_rfl) (by kernel_rfl) (fun _ _ _ h => leaves_put 6 rfl (by decide) h) (Or.inl ⟨by rfl, ?y2f12⟩) (by assumption) ?r2f12; (case y2f12 => intro w hSw; go_simp <;> with_reducible rfl); simp only [Act.put, List.setIfInBounds_toArray, List.set_cons_zero, List.set_cons_succ])
                                | (refine wpAnyH_take (i := 12) (oi := { dst := _, op := _, type := _, pos := _, after := _, guard := _ }) (v := undef) rfl (by kernel_rfl) (by kernel_rfl) (by kernel_rfl) (fun _ _ _ h => leaves_put 6 rfl (by decide) h) (Or.inr ⟨by rfl, rfl⟩) (by assumption) ?r2f12; simp only [Act.put, List.setIfInBounds_toArray, List.set_cons_zero, List.set_cons_succ])
                              first
                                | (refine wpAnyH_take (i := 13) (oi := { dst := _, op := _, type := _, pos := _, after := _, guard := _ }) (v := ?v2f13) rfl (by kernel_rfl) (by kernel_rfl) (by kernel_rfl) (fun _ _ _ h => leaves_put 6 rfl (by decide) h) (Or.inl ⟨by rfl, ?y2f13⟩) (by assumption) ?r2f13; (case y2f13 => intro w hSw; go_simp <;> with_reducible rfl); simp only [Act.put, List.setIfInBounds_toArray, List.set_cons_zero, List.set_cons_succ])
                                | (refine wpAnyH_take (i := 13) (oi := { dst := _, op := _, type := _, pos := _, after := _, guard := _ }) (v := undef) rfl (by kernel_rfl) (by kernel_rfl) (by kernel_rfl) (fun _ _ _ h => leaves_put 6 rfl (by decide) h) (Or.inr ⟨by rfl, rfl⟩) (by assumption) ?r2f13; simp only [Act.put, List.setIfInBounds_toArray, List.set_cons_zero, List.set_cons_succ])
                              first
                                | (refine wpAnyH_take (i := 14) (oi := { dst := _, op := _, type := _, pos := _, after := _, guard := _ }) (v := ?v2f14) rfl (by kernel_rfl) (by kernel_rfl) (by kernel_rfl) (fun _ _ _ h => leaves_put 6 rfl (by decide) h) (Or.inl ⟨by rfl, ?y2f14⟩) (by assumption) ?r2f14; (case y2f14 => intro w hSw; go_simp <;> with_reducible rfl); simp only [Act.put, List.setIfInBounds_toArray, List.set_cons_zero, List.set_cons_succ])
                                | (refine wpAnyH_take (i := 14) (oi := { dst := _, op := _, type := _, pos := _, after := _, guard := _ }) (v := undef) rfl (by kernel_rfl) (by kernel_rfl) (by kernel_rfl) (fun _ _ _ h => leaves_put 6 rfl (by decide) h) (Or.inr ⟨by rfl, rfl⟩) (by assumption) ?r2f14; simp only [Act.put, List.setIfInBounds_toArray, List.set_cons_zero, List.set_cons_succ])
                              first
                                | (refine wpAnyH_take (i := 15) (oi := { dst := _, op := _, type := _, pos := _, after := _, guard := _ }) (v := ?v2f15) rfl (by kernel_rfl) (by kernel_rfl) (by kernel_rfl) (fun _ _ _ h => leaves_put 6 rfl (by decide) h) (Or.inl ⟨by rfl, ?y2f15⟩) (by assumption) ?r2f15; (case y2f15 => intro w hSw; go_simp <;> with_reducible rfl); simp only [Act.put, List.setIfInBounds_toArray, List.set_cons_zero, List.set_cons_succ])
                                | (refine wpAnyH_take (i := 15) (oi := { dst := _, op := _, type := _, pos := _, after := _, guard := _ }) (v := undef) rfl (by kernel_rfl) (by kernel_rfl) (by kernel_rfl) (fun _ _ _ h => leaves_put 6 rfl (by decide) h) (Or.inr ⟨by rfl, rfl⟩) (by assumption) ?r2f15; simp only [Act.put, List.setIfInBounds_toArray, List.set_cons_zero, List.set_cons_succ])
                              first
                                | (refine wpAnyH_take (i := 16) (oi := { dst := _, op := _, type := _, pos := _, after := _, guard := _ }) (v := ?v2f16) rfl (by kernel_rfl) (by kernel_rfl) (by kernel_rfl) (fun _ _ _ h => leaves_put 6 rfl (by decide) h) (Or.inl ⟨by rfl, ?y2f16⟩) (by assumption) ?r2f16; (case y2f16 => intro w hSw; go_simp <;> with_reducible rfl); simp only [Act.put, List.setIfInBounds_toArray, List.set_cons_zero, List.set_cons_succ])
                                | (refine wpAnyH_take (i := 16) (oi := { dst := _, op := _, type := _, pos := _, after := _, guard := _ }) (v := undef) rfl (by kernel_rfl) (by kernel_rfl) (by kernel_rfl) (fun _ _ _ h => leaves_put 6 rfl (by decide) h) (Or.inr ⟨by rfl, rfl⟩) (by assumption) ?r2f16; simp only [Act.put, List.setIfInBounds_toArray, List.set_cons_zero, List.set_cons_succ])
                              first
                                | (refine wpAnyH_take (i := 17) (oi := { dst := _, op := _, type := _, pos := _, after := _, guard := _ }) (v := ?v2f17) rfl (by kernel_rfl) (by kernel_rfl) (by kernel_rfl) (fun _ _ _ h => leaves_put 6 rfl (by decide) h) (Or.inl ⟨by rfl, ?y2f17⟩) (by assumption) ?r2f17; (case y2f17 => intro w hSw; go_simp <;> with_reducible rfl); simp only [Act.put, List.setIfInBounds_toArray, List.set_cons_zero, List.set_cons_succ])
                                | (refine wpAnyH_take (i := 17) (oi := { dst := _, op := _, type := _, pos := _, after := _, guard := _ }) (v := undef) rfl (by kernel_rfl) (by kernel_rfl) (by kernel_rfl) (fun _ _ _ h => leaves_put 6 rfl (by decide) h) (Or.inr ⟨by rfl, rfl⟩) (by assumption) ?r2f17; simp only [Act.put, List.setIfInBounds_toArray, List.set_cons_zero, List.set_cons_succ])
                              first
                                | (refine wpAnyH_take (i := 18) (oi := { dst := _, op := _, type := _, pos := _, after := _, guard := _ }) (v := ?v2f18) rfl (by kernel_rfl) (by kernel_rfl) (by kernel_rfl) (fun _ _ _ h => leaves_put 6 rfl (by decide) h) (Or.inl ⟨by rfl, ?y2f18⟩) (by assumption) ?r2f18; (case y2f18 => intro w hSw; go_simp <;> with_reducible rfl); simp only [Act.put, List.setIfInBounds_toArray, List.set_cons_zero, List.set_cons_succ])
                                | (refine wpAnyH_take (i := 18) (oi := { dst := _, op := _, type := _, pos := _, after := _, guard := _ }) (v := undef) rfl (by kernel_rfl) (by kernel_rfl) (by kernel_rfl) (fun _ _ _ h => leaves_put 6 rfl (by decide) h) (Or.inr ⟨by rfl, rfl⟩) (by assumption) ?r2f18; simp only [Act.put, List.setIfInBounds_toArray, List.set_cons_zero, List.set_cons_succ])
                              first
                                | (refine wpAnyH_take (i := 19) (oi := { dst := _, op := _, type := _, pos := _, after := _, guard := _ }) (v := ?v2f19) rfl (by kernel_rfl) (by kernel_rfl) (by kernel_rfl) (fun _ _ _ h => leaves_put 6 rfl (by decide) h) (Or.inl ⟨by rfl, ?y2f19⟩) (by assumption) ?r2f19; (case y2f19 => intro w hSw; go_simp <;> with_reducible rfl); simp only [Act.put, List.setIfInBounds_toArray, List.set_cons_zero, List.set_cons_succ])
                                | (refine wpAnyH_take (i := 19) (oi := { dst := _, op := _, type := _, pos := _, after := _, guard := _ }) (v := undef) rfl (by kernel_rfl) (by kernel_rfl) (by kernel_rfl) (fun _ _ _ h => leaves_put 6 rfl (by decide) h) (Or.inr ⟨by rfl, rfl⟩) (by assumption) ?r2f19; simp only [Act.put, List.setIfInBounds_toArray, List.set_cons_zero, List.set_cons_succ])
                              first
                                | (refine wpAnyH_take (i := 20) (oi := { dst := _, op := _, type := _, pos := _, after := _, guard := _ }) (v := ?v2f20) rfl (by kernel_rfl) (by kernel_rfl) (by kernel_rfl) (fun _ _ _ h => leaves_put 6 rfl (by decide) h) (Or.inl ⟨by rfl, ?y2f20⟩) (by assumption) ?r2f20; (case y2f20 => intro w hSw; go_simp <;> with_reducible rfl); simp only [Act.put, List.setIfInBounds_toArray, List.set_cons_zero, List.set_cons_succ])
                                | (refine wpAnyH_take (i := 20) (oi := { dst := _, op := _, type := _, pos := _, after := _, guard := _ }) (v := undef) rfl (by kernel_rfl) (by kernel_rfl) (by kernel_rfl) (fun _ _ _ h => leaves_put 6 rfl (by decide) h) (Or.inr ⟨by rfl, rfl⟩) (by assumption) ?r2f20; simp only [Act.put, List.setIfInBounds_toArray, List.set_cons_zero, List.set_cons_succ])
                              first
                                | (refine wpAnyH_take (i := 21) (oi := { dst := _, op := _, type := _, pos := _, after := _, guard := _ }) (v := ?v2f21) rfl (by kernel_rfl) (by kernel_rfl) (by kernel_rfl) (fun _ _ _ h => leaves_put 6 rfl (by decide) h) (Or.inl ⟨by rfl, ?y2f21⟩) (by assumption) ?r2f21; (case y2f21 => intro w hSw; go_simp <;> with_reducible rfl); simp only [Act.put, List.setIfInBounds_toArray, List.set_cons_zero, List.set_cons_succ])
                                | (refine wpAnyH_take (i := 21) (oi := { dst := _, op := _, type := _, pos := _, after := _, guard := _ }) (v := undef) rfl (by kernel_rfl) (by kernel_rfl) (by kernel_rfl) (fun _ _ _ h => leaves_put 6 rfl (by decide) h) (Or.inr ⟨by rfl, rfl⟩) (by assumption) ?r2f21; simp only [Act.put, List.setIfInBounds_toArray, List.set_cons_zero, List.set_cons_succ])
                              first
                                | (refine wpAnyH_take (i := 22) (oi := { dst := _, op := _, type := _, pos := _, after := _, guard := _ }) (v := ?v2f22) rfl (by kernel_rfl) (by kernel_rfl) (by kernel_rfl) (fun _ _ _ h => leaves_put 6 rfl (by decide) h) (Or.inl ⟨by rfl, ?y2f22⟩) (by assumption) ?r2f22; (case y2f22 => intro w hSw; go_simp <;> with_reducible rfl); simp only [Act.put, List.setIfInBounds_toArray, List.set_cons_zero, List.set_cons_succ])
                                | (refine wpAnyH_take (i := 22) (oi := { dst := _, op := _, type := _, pos := _, after := _, guard := _ }) (v := undef) rfl (by kernel_rfl) (by kernel_rfl) (by kernel_rfl) (fun _ _ _ h => leaves_put 6 rfl (by decide) h) (Or.inr ⟨by rfl, rfl⟩) (by assumption) ?r2f22; simp only [Act.put, List.setIfInBounds_toArray, List.set_cons_zero, List.set_cons_succ])
                              first
                                | (refine wpAnyH_take (i := 23) (oi := { dst := _, op := _, type := _, pos := _, after := _, guard := _ }) (v := ?v2f23) rfl (by kernel_rfl) (by kernel_rfl) (by kernel_rfl) (fun _ _ _ h => leaves_put 6 rfl (by decide) h) (Or.inl ⟨by rfl, ?y2f23⟩) (by assumption) ?r2f23; (case y2f23 => intro w hSw; go_simp <;> with_reducible rfl); simp only [Act.put, List.setIfInBounds_toArray, List.set_cons_zero, List.set_cons_succ])
                                | (refine wpAnyH_take (i := 23) (oi := { dst := _, op := _, type := _, pos := _, after := _, guard := _ }) (v := undef) rfl (by kernel_rfl) (by kernel_rfl) (by kernel_rfl) (fun _ _ _ h => leaves_put 6 rfl (by decide) h) (Or.inr ⟨by rfl, rfl⟩) (by assumption) ?r2f23; simp only [Act.put, List.setIfInBounds_toArray, List.set_cons_zero, List.set_cons_succ])
                              first
                                | (refine wpAnyH_take (i := 24) (oi := { dst := _, op := _, type := _, pos := _, after := _, guard := _ }) (v := ?v2f24) rfl (by kernel_rfl) (by kernel_rfl) (by kernel_rfl) (fun _ _ _ h => leaves_put 6 rfl (by decide) h) (Or.inl ⟨by rfl, ?y2f24⟩) (by assumption) ?r2f24; (case y2f24 => intro w hSw; go_simp <;> with_reducible rfl); simp only [Act.put, List.setIfInBounds_toArray, List.set_cons_zero, List.set_cons_succ])
                                | (refine wpAnyH_take (i := 24) (oi := { dst := _, op := _, type := _, pos := _, after := _, guard := _ }) (v := undef) rfl (by kernel_rfl) (by kernel_rfl) (by kernel_rfl) (fun _ _ _ h => leaves_put 6 rfl (by decide) h) (Or.inr ⟨by rfl, rfl⟩) (by assumption) ?r2f24; simp only [Act.put, List.setIfInBounds_toArray, List.set_cons_zero, List.set_cons_succ])
                              first
                                | (refine wpAnyH_take (i := 25) (oi := { dst := _, op := _, type := _, pos := _, after := _, guard := _ }) (v := ?v2f25) rfl (by kernel_rfl) (by kernel_rfl) (by kernel_rfl) (fun _ _ _ h => leaves_put 6 rfl (by decide) h) (Or.inl ⟨by rfl, ?y2f25⟩) (by assumption) ?r2f25; (case y2f25 => intro w hSw; go_simp <;> with_reducible rfl); simp only [Act.put, List.setIfInBounds_toArray, List.set_cons_zero, List.set_cons_succ])
                                | (refine wpAnyH_take (i := 25) (oi := { dst := _, op := _, type := _, pos := _, after := _, guard := _ }) (v := undef) rfl (by kernel_rfl) (by kernel_rfl) (by kernel_rfl) (fun _ _ _ h => leaves_put 6 rfl (by decide) h) (Or.inr ⟨by rfl, rfl⟩) (by assumption) ?r2f25; simp only [Act.put, List.setIfInBounds_toArray, List.set_cons_zero, List.set_cons_succ])
                              first
                                | (refine wpAnyH_take (i := 26) (oi := { dst := _, op := _, type := _, pos := _, after := _, guard := _ }) (v := ?v2f26) rfl (by kernel_rfl) (by kernel_rfl) (by kernel_rfl) (fun _ _ _ h => leaves_put 6 rfl (by decide) h) (Or.inl ⟨by rfl, ?y2f26⟩) (by assumption) ?r2f26; (case y2f26 => intro w hSw; go_simp <;> with_reducible rfl); simp only [Act.put, List.setIfInBounds_toArray, List.set_cons_zero, List.set_cons_succ])
                                | (refine wpAnyH_take (i := 26) (oi := { dst := _, op := _, type := _, pos := _, after := _, guard := _ }) (v := undef) rfl (by kernel_rfl) (by kernel_rfl) (by kernel_rfl) (fun _ _ _ h => leaves_put 6 rfl (by decide) h) (Or.inr ⟨by rfl, rfl⟩) (by assumption) ?r2f26; simp only [Act.put, List.setIfInBounds_toArray, List.set_cons_zero, List.set_cons_succ])
                              first
                                | (refine wpAnyH_take (i := 27) (oi := { dst := _, op := _, type := _, pos := _, after := _, guard := _ }) (v := ?v2f27) rfl (by kernel_rfl) (by kernel_rfl) (by kernel_rfl) (fun _ _ _ h => leaves_put 6 rfl (by decide) h) (Or.inl ⟨by rfl, ?y2f27⟩) (by assumption) ?r2f27; (case y2f27 => intro w hSw; go_simp <;> with_reducible rfl); simp only [Act.put, List.setIfInBounds_toArray, List.set_cons_zero, List.set_cons_succ])
                                | (refine wpAnyH_take (i := 27) (oi := { dst := _, op := _, type := _, pos := _, after := _, guard := _ }) (v := undef) rfl (by kernel_rfl) (by kernel_rfl) (by kernel_rfl) (fun _ _ _ h => leaves_put 6 rfl (by decide) h) (Or.inr ⟨by rfl, rfl⟩) (by assumption) ?r2f27; simp only [Act.put, List.setIfInBounds_toArray, List.set_cons_zero, List.set_cons_succ])
                              first
                                | (refine wpAnyH_take (i := 28) (oi := { dst := _, op := _, type := _, pos := _, after := _, guard := _ }) (v := ?v2f28) rfl (by kernel_rfl) (by kernel_rfl) (by kernel_rfl) (fun _ _ _ h => leaves_put 6 rfl (by decide) h) (Or.inl ⟨by rfl, ?y2f28⟩) (by assumption) ?r2f28; (case y2f28 => intro w hSw; go_simp <;> with_reducible rfl); simp only [Act.put, List.setIfInBounds_toArray, List.set_cons_zero, List.set_cons_succ])
                                | (refine wpAnyH_take (i := 28) (oi := { dst := _, op := _, type := _, pos := _, after := _, guard := _ }) (v := undef) rfl (by kernel_rfl) (by kernel_rfl) (by kernel_rfl) (fun _ _ _ h => leaves_put 6 rfl (by decide) h) (Or.inr ⟨by rfl, rfl⟩) (by assumption) ?r2f28; simp only [Act.put, List.setIfInBounds_toArray, List.set_cons_zero, List.set_cons_succ])
                              first
                                | (refine wpAnyH_take (i := 29) (oi := { dst := _, op := _, type := _, pos := _, after := _, guard := _ }) (v := ?v2f29) rfl (by kernel_rfl) (by kernel_rfl) (by kernel_rfl) (fun _ _ _ h => leaves_put 6 rfl (by decide) h) (Or.inl ⟨by rfl, ?y2f29⟩) (by assumption) ?r2f29; (case y2f29 => intro w hSw; go_simp <;> with_reducible rfl); simp only [Act.put, List.setIfInBounds_toArray, List.set_cons_zero, List.set_cons_succ])
                                | (refine wpAnyH_take (i := 29) (oi := { dst := _, op := _, type := _, pos := _, after := _, guard := _ }) (v := undef) rfl (by kernel_rfl) (by kernel_rfl) (by kernel_rfl) (fun _ _ _ h => leaves_put 6 rfl (by decide) h) (Or.inr ⟨by rfl, rfl⟩) (by assumption) ?r2f29; simp only [Act.put, List.setIfInBounds_toArray, List.set_cons_zero, List.set_cons_succ])
                              first
                                | (refine wpAnyH_take (i := 30) (oi := { dst := _, op := _, type := _, pos := _, after := _, guard := _ }) (v := ?v2f30) rfl (by kernel_rfl) (by kernel_rfl) (by kernel_rfl) (fun _ _ _ h => leaves_put 6 rfl (by decide) h) (Or.inl ⟨by rfl, ?y2f30⟩) (by assumption) ?r2f30; (case y2f30 => intro w hSw; go_simp <;> with_reducible rfl); simp only [Act.put, List.setIfInBounds_toArray, List.set_cons_zero, List.set_cons_succ])
                                | (refine wpAnyH_take (i := 30) (oi := { dst := _, op := _, type := _, pos := _, after := _, guard := _ }) (v := undef) rfl (by kernel_rfl) (by kernel_rfl) (by kernel_rfl) (fun _ _ _ h => leaves_put 6 rfl (by decide) h) (Or.inr ⟨by rfl, rfl⟩) (by assumption) ?r2f30; simp only [Act.put, List.setIfInBounds_toArray, List.set_cons_zero, List.set_cons_succ])
                              have cR := P9.res.cell
                              have fR := P9.res.froz
                              refine wpAnyH_ready (rs := [31]) (by kernel_rfl) (by simp) ?_
                              have hD := hK
                              clear hK
                              refine AllReadyH.cons (o := { dst := _, op := _, type := _, pos := _, after := _, guard := _ }) rfl (fun K hK => ?_) AllReadyH.nil
                              rw [if_pos (show Region.wanted _ _ = true from rfl)]
                              go_simp
                              refine hK.out _ _ (Off.setCell s0 (a := ⟨N + 1, 0, none⟩) ⟨4, by simp, P9.res.ty⟩ _) (fun _ => ?_)
                              clear hK K
                              refine wpAnyH_done (by kernel_rfl) ?_ _
                              go_wp2_with fail
                              all_goals
                                have q1 : (W12.setCell ⟨N + 1, 0, none⟩ (.bool true)).drew.heap[D]? = some (.deferred (some [])) := by
                                  show (W12.setCell ⟨N + 1, 0, none⟩ (.bool true)).heap[D]? = _
                                  rw [Below.heap_setCell _ _ _ _ (by simp; omega)]; exact hD
                                have R2 := P9.res.set (.bool true)
                                have hBf := (P9.bel.setCell (p := ⟨N + 1, 0, none⟩) (by show N ≤ N + 1; omega) (.bool true)).drew
                                have hbD := Below.putObj (Below.refl (N + 2) (W12.setCell ⟨N + 1, 0, none⟩ (.bool true)).drew) (l := D) (by omega) (.deferred none)
                                have m6 := ((R2.keep (Below.refl _ _).drew).keepAt hbD (by omega)).cell
                                refine ⟨by simp, .inl ⟨_, _, rfl, run_takeDeferred q1, ?_⟩⟩
                                refine ⟨.bool true, ?_, rfl, hBf.trans (hbD.mono (by omega))⟩
                                simp [results, Try.results8, go_sem, m6]
        · rw [if_neg hW0] at hEw
          subst hEw
          obtain ⟨-, rfl⟩ | ⟨h0, -⟩ := HP.out
          · go_wp2_with fail
            have m6 := (R0.set (.bool true)).cell
            refine ⟨.bool true, ?_, rfl, hN ▸ hb0.setCell (p := ⟨N + 1, 0, none⟩) (by show N ≤ N + 1; omega) _⟩
            simp [results, Try.results8, go_sem, m6]
          · exact absurd h0 hW0
end Go.Proofs.Ytaepkmjlkenenaa
