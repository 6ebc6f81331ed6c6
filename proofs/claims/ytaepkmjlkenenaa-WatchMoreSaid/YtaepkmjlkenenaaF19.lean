/- The closure of WatchMore: whether a rule is amiss with one firing more. -/
import Derived.Test.YtaepkmjlkenenaaF14
import Derived.Test.YtaepkmjlkenenaaFi4
namespace Go.Proofs.Ytaepkmjlkenenaa
open Go.RowKit Go.Shelf

/-- APPEND of one struct, one operation, for itself: the struct lies anywhere. -/
theorem wp_appSt {P : Program} (w : World) {o : Oper} {a : Act} {K : Act → World → Prop} {Q : Exit → Act → World → Prop} (s x : Operand) (t : TypeId)
    (ho : o.op = .call { callee := .builtin .append, args := #[s, x], argTypes := #[t, t] })
    (B : Nat) (e : TypeId) (z : Value) (sz bytes : Nat) (ht : P.underlying t = some (.slice e)) (hinfo : (P.info? e).map (fun i => (i.zero, i.size, i.bytes)) = some (some z, sz, bytes)) (hby : bytes ≤ 128)
    (hzs : z.cells.size = sz) (hsz : 0 < sz) {v : Value} {n : Nat} {xs : List Value} (hown : w.ownsRow B e sz v n xs) (us : List Value) (hus : us.length = sz) (hs : a.eval s = v) (ad : Addr) (hx : a.eval x = .slice (some ad) 1 1)
    (hc : ∀ j u, us[j]? = some u → w.cell? (ad.add j) = some u) (h1 : ∀ u ∈ us, u.oneCell' = true)
    (hsmall : n + 1 ≤ 1099511627776) (hbase : B ≤ w.heap.size)
    (hK : ∀ v' w', w'.ownsRow B e sz v' (n + 1) (xs ++ us) → Below B w w' → K (a.put o.dst v') w') : o.wp P a w K Q := by
  obtain ⟨i, hi, hz, hszz, hbytes⟩ := info_parts hinfo
  have hblk : ∀ k, v.ownBlock = some k → B ≤ k := fun k hk => (hown.lt k hk).1
  refine wp_append_own w s x t ho B e i z sz bytes ht hi hz hszz hbytes hzs hsz v n xs hs hown ad 1 1 us hx (by rw [hus, Nat.one_mul]) ?_ h1 (by unfold maxLen; omega) ?_ hbase ?_
  · intro j u hj; exact hc j u hj
  · exact Nat.le_trans (Nat.mul_le_mul hsmall hby) (by decide)
  · intro v' w' h2 h3 _
    exact hK v' w' h2 ((Below.refl _ _).grown h3 hbase hblk)
/-- what WatchMore's closure holds -/
structure WC (w : World) (br bl bn : Nat) (r : Fi.Rule) (v : Value) (now : Int) : Prop where
  rule : RuleAt w 34 br r
  lst : NumAt w bl 35 v
  nw : NumAt w bn 2 (.int .i64 now)
theorem WC.keep {w w' : World} {br bl bn : Nat} {r : Fi.Rule} {v : Value} {now : Int} (h : WC w br bl bn r v now) (hb : Below w.heap.size w w') : WC w' br bl bn r v now := ⟨h.rule.keep hb, h.lst.keep hb, h.nw.keep hb⟩
theorem FireAt.cells {w : World} {b : Nat} {f : Fi.Fire} (h : FireAt w b f) : ∀ j u, (fireC f)[j]? = some u → w.cell? ((⟨b, 0, none⟩ : Addr).add j) = some u := by
  intro j u hj
  obtain ⟨c0, c1, c2, c3, c4, c5, c6⟩ := h.facts
  rw [Addr.add_lit]
  match j, hj with
  | 0, hj => simp [fireC] at hj; subst hj; exact c0
  | 1, hj => simp [fireC] at hj; subst hj; exact c1
  | 2, hj => simp [fireC] at hj; subst hj; exact c2
  | 3, hj => simp [fireC] at hj; subst hj; exact c3
  | 4, hj => simp [fireC] at hj; subst hj; exact c4
  | 5, hj => simp [fireC] at hj; subst hj; exact c5
  | 6, hj => simp [fireC] at hj; subst hj; exact c6
  | n + 7, hj => simp [fireC] at hj
set_option maxRecDepth 100000 in
set_option maxHeartbeats 2000000 in
theorem with_any (r : Fi.Rule) (l : List Fi.Fire) (v : Value) (now : Int) (f : Fi.Fire) (hf : ∀ f ∈ l, Fi.I64 f.at') (hf' : Fi.I64 f.at') (hnow : Fi.I64 now) (hn : l.length ≤ 1000) (br bl bn : Nat) (w : World) (hl : Fires w v l) (hC : WC w br bl bn r v now) :
    Calls Try.prog 21 #[fireV f, .pointer (some ⟨br, 0, none⟩), .pointer (some ⟨bl, 0, none⟩), .pointer (some ⟨bn, 0, none⟩)] w fun e w' => e = .returned (.bool (Fi.amiss r (l ++ [f]) now)) ∧ Below w.heap.size w w' := by
  have hb0 := Below.al (Below.refl w.heap.size w) (.cells #[.int .u64 f.job, .int .i64 f.at', .int .i64 f.state, .int .i64 f.att, .int .u64 f.tok, .int .u64 f.wk, .int .i64 f.til] 58)
  have X := FireAt.new w f
  replace hl := hl.keep hb0
  replace hC := hC.keep hb0
  have hN : w.heap.size ≤ (w.alloc (.cells #[.int .u64 f.job, .int .i64 f.at', .int .i64 f.state, .int .i64 f.att, .int .u64 f.tok, .int .u64 f.wk, .int .i64 f.til] 58)).heap.size := by simp
  unfold fireV
  go_enter Try.func21, Try.ntmps21
  go_wp2_with fail
  generalize w.alloc (.cells #[.int .u64 f.job, .int .i64 f.at', .int .i64 f.state, .int .i64 f.att, .int .u64 f.tok, .int .u64 f.wk, .int .i64 f.til] 58) = W at *
  obtain ⟨bx, hbx⟩ : ∃ b, w.heap.size = b := ⟨_, rfl⟩
  rw [hbx] at hb0 X hN
  have hF : ∀ w', Below W.heap.size W w' → w'.cell? ⟨br, 0, none⟩ = some (.int .u8 r.kind) ∧ w'.cell? ⟨br, 1, none⟩ = some (.int .u64 r.job) ∧ w'.cell? ⟨br, 2, none⟩ = some (.int .i64 r.n) := fun w' h => (hC.keep h).rule.facts
  have e0 := fun w' h => (hF w' h).1
  have e1 := fun w' h => (hF w' h).2.1
  have e2 := fun w' h => (hF w' h).2.2
  have e3 : ∀ w', Below W.heap.size W w' → w'.cell? ⟨bl, 0, none⟩ = some v := fun w' h => (hC.keep h).lst.cell
  have e4 : ∀ w', Below W.heap.size W w' → w'.cell? ⟨bn, 0, none⟩ = some (.int .i64 now) := fun w' h => (hC.keep h).nw.cell
  have hG : ∀ w', Below W.heap.size W w' → FireAt w' bx f := fun w' h => X.keep h
  have g0 := fun w' h => (hG w' h).facts.1
  have g1 := fun w' h => (hG w' h).facts.2.1
  have g2 := fun w' h => (hG w' h).facts.2.2.1
  have g3 := fun w' h => (hG w' h).facts.2.2.2.1
  have g4 := fun w' h => (hG w' h).facts.2.2.2.2.1
  have g5 := fun w' h => (hG w' h).facts.2.2.2.2.2.1
  have g6 := fun w' h => (hG w' h).facts.2.2.2.2.2.2
  clear hF hG X hC
  refine wp_region_held_drew (S := fun w' => Below W.heap.size W w') (by kernel_rfl) (Below.refl _ _).drew (fun _ => ?_)
  have hd0 : Below W.heap.size W W.drew := (Below.refl _ _).drew
  replace hl := hl.keep hd0
  replace hN : bx ≤ W.drew.heap.size := hN
  first
    | (refine wpAnyH_take (i := 0) (oi := { dst := _, op := _, type := _, pos := _, after := _, guard := _ }) (v := ?vq0) rfl (by kernel_rfl) (by kernel_rfl) (by kernel_rfl) (fun _ _ _ h => h) (Or.inl ⟨by rfl, ?yq0⟩) (by assumption) ?rq0; (case yq0 => intro w hSw; go_simp <;> with_reducible rfl); simp only [Act.put, List.setIfInBounds_toArray, List.set_cons_zero, List.set_cons_succ])
    | (refine wpAnyH_take (i := 0) (oi := { dst := _, op := _, type := _, pos := _, after := _, guard := _ }) (v := undef) rfl (by kernel_rfl) (by kernel_rfl) (by kernel_rfl) (fun _ _ _ h => h) (Or.inr ⟨by rfl, rfl⟩) (by assumption) ?rq0; simp only [Act.put, List.setIfInBounds_toArray, List.set_cons_zero, List.set_cons_succ])
  first
    | (refine wpAnyH_take (i := 1) (oi := { dst := _, op := _, type := _, pos := _, after := _, guard := _ }) (v := ?vq1) rfl (by kernel_rfl) (by kernel_rfl) (by kernel_rfl) (fun _ _ _ h => h) (Or.inl ⟨by rfl, ?yq1⟩) (by assumption) ?rq1; (case yq1 => intro w hSw; go_simp <;> with_reducible rfl); simp only [Act.put, List.setIfInBounds_toArray, List.set_cons_zero, List.set_cons_succ])
    | (refine wpAnyH_take (i := 1) (oi := { dst := _, op := _, type := _, pos := _, after := _, guard := _ }) (v := undef) rfl (by kernel_rfl) (by kernel_rfl) (by kernel_rfl) (fun _ _ _ h => h) (Or.inr ⟨by rfl, rfl⟩) (by assumption) ?rq1; simp only [Act.put, List.setIfInBounds_toArray, List.set_cons_zero, List.set_cons_succ])
  first
    | (refine wpAnyH_take (i := 3) (oi := { dst := _, op := _, type := _, pos := _, after := _, guard := _ }) (v := ?vq3) rfl (by kernel_rfl) (by kernel_rfl) (by kernel_rfl) (fun _ _ _ h => h) (Or.inl ⟨by rfl, ?yq3⟩) (by assumption) ?rq3; (case yq3 => intro w hSw; go_simp <;> with_reducible rfl); simp only [Act.put, List.setIfInBounds_toArray, List.set_cons_zero, List.set_cons_succ])
    | (refine wpAnyH_take (i := 3) (oi := { dst := _, op := _, type := _, pos := _, after := _, guard := _ }) (v := undef) rfl (by kernel_rfl) (by kernel_rfl) (by kernel_rfl) (fun _ _ _ h => h) (Or.inr ⟨by rfl, rfl⟩) (by assumption) ?rq3; simp only [Act.put, List.setIfInBounds_toArray, List.set_cons_zero, List.set_cons_succ])
  first
    | (refine wpAnyH_take (i := 6) (oi := { dst := _, op := _, type := _, pos := _, after := _, guard := _ }) (v := ?vq6) rfl (by kernel_rfl) (by kernel_rfl) (by kernel_rfl) (fun _ _ _ h => h) (Or.inl ⟨by rfl, ?yq6⟩) (by assumption) ?rq6; (case yq6 => intro w hSw; go_simp <;> with_reducible rfl); simp only [Act.put, List.setIfInBounds_toArray, List.set_cons_zero, List.set_cons_succ])
    | (refine wpAnyH_take (i := 6) (oi := { dst := _, op := _, type := _, pos := _, after := _, guard := _ }) (v := undef) rfl (by kernel_rfl) (by kernel_rfl) (by kernel_rfl) (fun _ _ _ h => h) (Or.inr ⟨by rfl, rfl⟩) (by assumption) ?rq6; simp only [Act.put, List.setIfInBounds_toArray, List.set_cons_zero, List.set_cons_succ])
  refine wpAnyH_ready (rs := [2, 4]) (by kernel_rfl) (by simp) ?_
  refine AllReadyH.cons (o := { dst := _, op := _, type := _, pos := _, after := _, guard := _ }) rfl (fun K hK => ?_) (AllReadyH.cons (o := { dst := _, op := _, type := _, pos := _, after := _, guard := _ }) rfl (fun K hK => ?_) AllReadyH.nil)
  · go_simp
    refine (cloneFi_any v l (by omega) _ hl).mono ?_
    rintro e w1 ⟨cv, rfl, hC, hc⟩
    have hd1 := Below.call hd0 hc
    refine hK.out _ _ hd1 (fun _ => ?_)
    clear hK K
    refine wpAnyH_ready (rs := [4]) (by kernel_rfl) (by simp) ?_
    refine AllReadyH.cons (o := { dst := _, op := _, type := _, pos := _, after := _, guard := _ }) rfl (fun K hK => ?_) AllReadyH.nil
    go_simp
    have hG := FireAt.new w1 f
    have ha := Below.al (Below.refl w1.heap.size w1) (.cells #[.int .u64 f.job, .int .i64 f.at', .int .i64 f.state, .int .i64 f.att, .int .u64 f.tok, .int .u64 f.wk, .int .i64 f.til] 58)
    have hd2 := Below.call hd1 ha
    replace hC := ownN_keepAt hC (fun j hj => ha.block j (World.ownsRow.lt hC j hj).2)
    generalize w1.alloc (.cells #[.int .u64 f.job, .int .i64 f.at', .int .i64 f.state, .int .i64 f.att, .int .u64 f.tok, .int .u64 f.wk, .int .i64 f.til] 58) = w2 at *
    refine hK.out _ _ hd2 (fun _ => ?_)
    clear hK K
    generalize w1.heap.size = gb at *
    refine wpAnyH_ready (rs := [5]) (by kernel_rfl) (by simp) ?_
    refine AllReadyH.cons (o := { dst := _, op := _, type := _, pos := _, after := _, guard := _ }) rfl (fun K hK => ?_) AllReadyH.nil
    rw [if_pos (by rfl)]
    refine wp_appSt _ _ _ 35 rfl W.drew.heap.size 58 _ 7 56 Try.underlying35 Try.info58 (by decide) rfl (by decide) hC (fireC f) rfl rfl ⟨gb, 0, none⟩ rfl hG.cells (fire_one f) (by omega) (Nat.le_trans hd0.size hd2.size) ?_
    intro v' w3 hown hb3
    have hd3 : Below W.heap.size W w3 := hd2.trans (hb3.mono hd0.size)
    refine hK.out _ _ hd3 (fun _ => ?_)
    clear hK K
    refine wpAnyH_ready (rs := [7]) (by kernel_rfl) (by simp) ?_
    refine AllReadyH.cons (o := { dst := _, op := _, type := _, pos := _, after := _, guard := _ }) rfl (fun K hK => ?_) AllReadyH.nil
    go_simp
    have hrow : Row fireC w3 v' (l ++ [f]) := Row.own fireC_len (by rw [List.flatMap_append, List.length_append]; simpa using hown) (by first | omega | simp)
    refine (amiss_any r (l ++ [f]) v' now (by simp only [List.mem_append, List.mem_singleton]; rintro x (hx | rfl); exact hf x hx; exact hf') hnow (by simp; omega) _ hrow).mono ?_
    rintro e w4 ⟨rfl, hc4⟩
    have hd4 := Below.call hd3 hc4
    refine hK.out _ _ hd4 (fun _ => ?_)
    clear hK K
    first
      | (refine wpAnyH_take (i := 8) (oi := { dst := _, op := _, type := _, pos := _, after := _, guard := _ }) (v := ?vq8) rfl (by kernel_rfl) (by kernel_rfl) (by kernel_rfl) (fun _ _ _ h => h) (Or.inl ⟨by rfl, ?yq8⟩) (by assumption) ?rq8; (case yq8 => intro w hSw; go_simp <;> with_reducible rfl); simp only [Act.put, List.setIfInBounds_toArray, List.set_cons_zero, List.set_cons_succ])
      | (refine wpAnyH_take (i := 8) (oi := { dst := _, op := _, type := _, pos := _, after := _, guard := _ }) (v := undef) rfl (by kernel_rfl) (by kernel_rfl) (by kernel_rfl) (fun _ _ _ h => h) (Or.inr ⟨by rfl, rfl⟩) (by assumption) ?rq8; simp only [Act.put, List.setIfInBounds_toArray, List.set_cons_zero, List.set_cons_succ])
    refine wpAnyH_done (by kernel_rfl) ?_ _
    go_wp2_with fail
    go_ret
    exact ⟨rfl, hbx ▸ hb0.trans (hd4.mono hN)⟩
  · go_simp
    have hG : FireAt (W.alloc (.cells #[.int .u64 f.job, .int .i64 f.at', .int .i64 f.state, .int .i64 f.att, .int .u64 f.tok, .int .u64 f.wk, .int .i64 f.til] 58)).drew W.heap.size f := FireAt.new W.drew f
    have ha : Below W.drew.heap.size W.drew (W.alloc (.cells #[.int .u64 f.job, .int .i64 f.at', .int .i64 f.state, .int .i64 f.att, .int .u64 f.tok, .int .u64 f.wk, .int .i64 f.til] 58)).drew := Below.al (Below.refl W.drew.heap.size W.drew) (.cells #[.int .u64 f.job, .int .i64 f.at', .int .i64 f.state, .int .i64 f.att, .int .u64 f.tok, .int .u64 f.wk, .int .i64 f.til] 58)
    have hd1 := Below.call hd0 ha
    replace hl := hl.keep ha
    generalize (W.alloc (.cells #[.int .u64 f.job, .int .i64 f.at', .int .i64 f.state, .int .i64 f.att, .int .u64 f.tok, .int .u64 f.wk, .int .i64 f.til] 58)).drew = w1 at *
    refine hK.out _ _ hd1 (fun _ => ?_)
    clear hK K
    refine wpAnyH_ready (rs := [2]) (by kernel_rfl) (by simp) ?_
    refine AllReadyH.cons (o := { dst := _, op := _, type := _, pos := _, after := _, guard := _ }) rfl (fun K hK => ?_) AllReadyH.nil
    go_simp
    refine (cloneFi_any v l (by omega) _ hl).mono ?_
    rintro e w2 ⟨cv, rfl, hC, hc⟩
    have hd2 := Below.call hd1 hc
    replace hG := hG.keep hc
    refine hK.out _ _ hd2 (fun _ => ?_)
    clear hK K
    refine wpAnyH_ready (rs := [5]) (by kernel_rfl) (by simp) ?_
    refine AllReadyH.cons (o := { dst := _, op := _, type := _, pos := _, after := _, guard := _ }) rfl (fun K hK => ?_) AllReadyH.nil
    rw [if_pos (by rfl)]
    refine wp_appSt _ _ _ 35 rfl w1.heap.size 58 _ 7 56 Try.underlying35 Try.info58 (by decide) rfl (by decide) hC (fireC f) rfl rfl ⟨W.heap.size, 0, none⟩ rfl hG.cells (fire_one f) (by omega) hc.size ?_
    intro v' w3 hown hb3
    have hd3 : Below W.heap.size W w3 := hd2.trans (hb3.mono hd1.size)
    refine hK.out _ _ hd3 (fun _ => ?_)
    clear hK K
    refine wpAnyH_ready (rs := [7]) (by kernel_rfl) (by simp) ?_
    refine AllReadyH.cons (o := { dst := _, op := _, type := _, pos := _, after := _, guard := _ }) rfl (fun K hK => ?_) AllReadyH.nil
    go_simp
    have hrow : Row fireC w3 v' (l ++ [f]) := Row.own fireC_len (by rw [List.flatMap_append, List.length_append]; simpa using hown) (by first | omega | simp)
    refine (amiss_any r (l ++ [f]) v' now (by simp only [List.mem_append, List.mem_singleton]; rintro x (hx | rfl); exact hf x hx; exact hf') hnow (by simp; omega) _ hrow).mono ?_
    rintro e w4 ⟨rfl, hc4⟩
    have hd4 := Below.call hd3 hc4
    refine hK.out _ _ hd4 (fun _ => ?_)
    clear hK K
    first
      | (refine wpAnyH_take (i := 8) (oi := { dst := _, op := _, type := _, pos := _, after := _, guard := _ }) (v := ?vb8) rfl (by kernel_rfl) (by kernel_rfl) (by kernel_rfl) (fun _ _ _ h => h) (Or.inl ⟨by rfl, ?yb8⟩) (by assumption) ?rb8; (case yb8 => intro w hSw; go_simp <;> with_reducible rfl); simp only [Act.put, List.setIfInBounds_toArray, List.set_cons_zero, List.set_cons_succ])
      | (refine wpAnyH_take (i := 8) (oi := { dst := _, op := _, type := _, pos := _, after := _, guard := _ }) (v := undef) rfl (by kernel_rfl) (by kernel_rfl) (by kernel_rfl) (fun _ _ _ h => h) (Or.inr ⟨by rfl, rfl⟩) (by assumption) ?rb8; simp only [Act.put, List.setIfInBounds_toArray, List.set_cons_zero, List.set_cons_succ])
    refine wpAnyH_done (by kernel_rfl) ?_ _
    go_wp2_with fail
    go_ret
    exact ⟨rfl, hbx ▸ hb0.trans (hd4.mono hN)⟩
end Go.Proofs.Ytaepkmjlkenenaa
