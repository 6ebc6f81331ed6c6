import Derived.Test.YtaepkmjlkenenaaF6
import Derived.Test.YtaepkmjlkenenaaSr3
namespace Go.Proofs.Ytaepkmjlkenenaa
open Go.RowKit

theorem Off.alloc {Fr : Nat → Prop} {A B : World} (h : Off Fr A B) (o : Obj) : Off Fr A (B.alloc o) := h.then (Below.al (Below.refl _ _) o)
theorem Off.drew {Fr : Nat → Prop} {A B : World} (h : Off Fr A B) : Off Fr A B.drew := ⟨h.size, h.same⟩
theorem Off.rule {Fr : Nat → Prop} {A B : World} {t : TypeId} {b : Nat} {r : Fi.Rule} (h : Off Fr A B) (hN : RuleAt A t b r) (hf : ¬ Fr b) : RuleAt B t b r := by
  unfold RuleAt; rw [h.same b hN.lt hf]; exact hN
set_option maxRecDepth 100000 in
theorem look_old (b : Nat) (v vf : Value) (l : List Fi.St) (last now : Int) (h : now < 0 ∨ (0 ≤ now ∧ now < last)) (w : World) (hW : WV w b v l last) :
    Calls Try.prog 19 #[.pointer (some ⟨b, 0, none⟩), vf, .int .i64 now] w fun e w' => e = .returned (.tuple #[.slice none 0 0, .int .i64 120]) ∧ w = w' := by
  obtain ⟨c0, c1⟩ := hW.c0
  rcases h with h | ⟨h, h'⟩
  · go_enter Try.func19, Try.ntmps19
    go_wp2_with fail
    go_ret2
    exact ⟨rfl, rfl⟩
  · go_enter Try.func19, Try.ntmps19
    go_wp2_with fail
    go_ret2
    exact ⟨rfl, rfl⟩
set_option maxRecDepth 100000 in
theorem look_nil (vf : Value) (now : Int) (w : World) :
    Calls Try.prog 19 #[.pointer none, vf, .int .i64 now] w fun e w' => e = .returned (.tuple #[.slice none 0 0, .int .i64 1]) ∧ w = w' := by
  go_enter Try.func19, Try.ntmps19
  go_wp2_with fail
  go_ret2
  exact ⟨rfl, rfl⟩
set_option maxRecDepth 100000 in
theorem add_nil (r : Fi.Rule) (w : World) :
    Calls Try.prog 25 #[.pointer none, ruleV r] w fun e w' => e = .returned (.tuple #[.int .i64 0, .int .i64 1]) ∧ Below w.heap.size w w' := by
  unfold ruleV
  go_enter Try.func25, Try.ntmps25
  go_wp2_with fail
  go_ret2
  exact ⟨rfl, Below.al (Below.refl _ _) _⟩
set_option maxRecDepth 100000 in
theorem add_bad (b : Nat) (r : Fi.Rule) (hr : Fi.may r = false) (w : World) :
    Calls Try.prog 25 #[.pointer (some ⟨b, 0, none⟩), ruleV r] w fun e w' => e = .returned (.tuple #[.int .i64 0, .int .i64 2]) ∧ Below w.heap.size w w' := by
  have hm := ruleMay_any r
  rw [hr] at hm
  unfold ruleV at *
  go_enter Try.func25, Try.ntmps25
  go_wp2_with fail
  refine (hm _).mono ?_
  rintro e w1 ⟨rfl, hc⟩
  go_wp2_with fail
  go_ret2
  exact ⟨rfl, Below.call (Below.al (Below.refl _ _) _) hc⟩
set_option maxRecDepth 100000 in
theorem add_full (b : Nat) (v : Value) (l : List Fi.St) (last : Int) (hl : l.length = 64) (r : Fi.Rule) (hr : Fi.may r = true) (w : World) (hW : WV w b v l last) :
    Calls Try.prog 25 #[.pointer (some ⟨b, 0, none⟩), ruleV r] w fun e w' => e = .returned (.tuple #[.int .i64 0, .int .i64 6]) ∧ Below w.heap.size w w' := by
  have hm := ruleMay_any r
  rw [hr] at hm
  obtain ⟨vo, vc, hvf, -, -⟩ := ownN_form hW.own
  rw [hl] at hvf
  have hal := Below.al (Below.refl w.heap.size w) (.cells #[.int .u8 r.kind, .int .u64 r.job, .int .i64 r.n] 34)
  have hW1 := hW.keep hal
  subst hvf
  unfold ruleV at *
  clear hl
  go_enter Try.func25, Try.ntmps25
  go_wp2_with fail
  refine (hm _).mono ?_
  rintro e w1 ⟨rfl, hc⟩
  obtain ⟨c0, c1⟩ := (hW1.keep hc).c0
  go_wp2_with fail
  go_ret2
  exact ⟨rfl, Below.call hal hc⟩
set_option maxRecDepth 100000 in
set_option maxHeartbeats 4000000 in
/-- a rule more -/
theorem add_any (b : Nat) (v : Value) (l : List Fi.St) (last : Int) (hl : l.length < 64) (r : Fi.Rule) (hr : Fi.may r = true) (w : World) (hW : WV w b v l last) :
    Calls Try.prog 25 #[.pointer (some ⟨b, 0, none⟩), ruleV r] w fun e w' => ∃ v', e = .returned (.tuple #[.int .i64 l.length, .int .i64 0]) ∧ WV w' b v' (l ++ [⟨r, false, 0⟩]) last ∧ (v'.ownBlock = v.ownBlock ∨ ∃ k, v'.ownBlock = some k ∧ w.heap.size ≤ k) ∧ Off (fun k => k = b ∨ v.ownBlock = some k) w w' ∧ Below b w w' := by
  have hm := ruleMay_any r
  rw [hr] at hm
  have hal := Below.al (Below.refl w.heap.size w) (.cells #[.int .u8 r.kind, .int .u64 r.job, .int .i64 r.n] 34)
  have hvl : ∀ k, v.ownBlock = some k → b + 1 ≤ k ∧ k < w.heap.size := fun k hk => World.ownsRow.lt hW.own k hk
  have hbl := hW.lt
  have hW1 := hW.keep hal
  have R1 := RuleAt.new w 34 r w.heap.size rfl
  have hO0 : Off (fun k => k = b ∨ v.ownBlock = some k) w (w.alloc (.cells #[.int .u8 r.kind, .int .u64 r.job, .int .i64 r.n] 34)) := Off.below hal
  have hl' : (l.length : Int) < 64 := by omega
  unfold ruleV at *
  go_enter Try.func25, Try.ntmps25
  go_wp2_with fail
  generalize w.alloc (.cells #[.int .u8 r.kind, .int .u64 r.job, .int .i64 r.n] 34) = W1 at *
  refine (hm _).mono ?_
  clear hm
  rintro e W2 ⟨rfl, hc⟩
  obtain ⟨vo, vc, hvf, -, -⟩ := ownN_form hW.own
  have W := hW1.keep hc
  have R := R1.keep hc
  have O := hO0.then hc
  have hB2 : Below b w W2 := (hal.mono (by omega)).trans (hc.mono (by have := hal.size; omega))
  have hz2 : w.heap.size ≤ W2.heap.size := O.size
  obtain ⟨c0, c1⟩ := W.c0
  have hbx : w.heap.size < W2.heap.size := R.lt
  clear hW hW1 R1 hO0 hc hal
  have HVL := Lib.hid hvl
  clear hvl
  subst hvf
  go_wp2_with fail
  generalize hN : w.heap.size = N at *
  have hNF : ¬ (N = b ∨ (Value.slice vo l.length vc).ownBlock = some N) := fun h => h.elim (fun h => by omega) (fun h => by have := (HVL.out N h).2; omega)
  have hR : ∀ w', Off (fun k => k = b ∨ (Value.slice vo l.length vc).ownBlock = some k) W2 w' → RuleAt w' 34 N r := fun w' h => h.rule R hNF
  clear hNF
  refine wp_region_held_drew (S := fun w' => Off (fun k => k = b ∨ (Value.slice vo l.length vc).ownBlock = some k) W2 w') (by kernel_rfl) (Off.refl _ W2).drew (fun h0 => ?_)
  refine wpAnyH_take (i := 0) (oi := { dst := _, op := _, type := _, pos := _, after := _, guard := _ }) (v := ?va0) rfl (by kernel_rfl) (by kernel_rfl) (by kernel_rfl) (fun _ _ _ h => h) (Or.inl ⟨by rfl, ?ya0⟩) (by assumption) ?ra0; (case ya0 => intro w hSw; obtain ⟨r0, r1, r2⟩ := (hR w hSw).facts; go_simp <;> with_reducible rfl); simp only [Act.put, List.setIfInBounds_toArray, List.set_cons_zero, List.set_cons_succ]
  refine wpAnyH_take (i := 1) (oi := { dst := _, op := _, type := _, pos := _, after := _, guard := _ }) (v := ?va1) rfl (by kernel_rfl) (by kernel_rfl) (by kernel_rfl) (fun _ _ _ h => h) (Or.inl ⟨by rfl, ?ya1⟩) (by assumption) ?ra1; (case ya1 => intro w hSw; obtain ⟨r0, r1, r2⟩ := (hR w hSw).facts; go_simp <;> with_reducible rfl); simp only [Act.put, List.setIfInBounds_toArray, List.set_cons_zero, List.set_cons_succ]
  refine wpAnyH_take (i := 2) (oi := { dst := _, op := _, type := _, pos := _, after := _, guard := _ }) (v := ?va2) rfl (by kernel_rfl) (by kernel_rfl) (by kernel_rfl) (fun _ _ _ h => h) (Or.inl ⟨by rfl, ?ya2⟩) (by assumption) ?ra2; (case ya2 => intro w hSw; obtain ⟨r0, r1, r2⟩ := (hR w hSw).facts; go_simp <;> with_reducible rfl); simp only [Act.put, List.setIfInBounds_toArray, List.set_cons_zero, List.set_cons_succ]
  refine wpAnyH_take (i := 3) (oi := { dst := _, op := _, type := _, pos := _, after := _, guard := _ }) (v := ?va3) rfl (by kernel_rfl) (by kernel_rfl) (by kernel_rfl) (fun _ _ _ h => h) (Or.inl ⟨by rfl, ?ya3⟩) (by assumption) ?ra3; (case ya3 => intro w hSw; obtain ⟨r0, r1, r2⟩ := (hR w hSw).facts; go_simp <;> with_reducible rfl); simp only [Act.put, List.setIfInBounds_toArray, List.set_cons_zero, List.set_cons_succ]
  refine wpAnyH_take (i := 5) (oi := { dst := _, op := _, type := _, pos := _, after := _, guard := _ }) (v := ?va5) rfl (by kernel_rfl) (by kernel_rfl) (by kernel_rfl) (fun _ _ _ h => h) (Or.inl ⟨by rfl, ?ya5⟩) (by assumption) ?ra5; (case ya5 => intro w hSw; obtain ⟨r0, r1, r2⟩ := (hR w hSw).facts; go_simp <;> with_reducible rfl); simp only [Act.put, List.setIfInBounds_toArray, List.set_cons_zero, List.set_cons_succ]
  refine wpAnyH_take (i := 6) (oi := { dst := _, op := _, type := _, pos := _, after := _, guard := _ }) (v := ?va6) rfl (by kernel_rfl) (by kernel_rfl) (by kernel_rfl) (fun _ _ _ h => h) (Or.inl ⟨by rfl, ?ya6⟩) (by assumption) ?ra6; (case ya6 => intro w hSw; obtain ⟨r0, r1, r2⟩ := (hR w hSw).facts; go_simp <;> with_reducible rfl); simp only [Act.put, List.setIfInBounds_toArray, List.set_cons_zero, List.set_cons_succ]
  refine wpAnyH_ready (rs := [4, 7]) (by kernel_rfl) (by simp) ?_
  refine AllReadyH.cons (o := { dst := _, op := _, type := _, pos := _, after := _, guard := _ }) rfl (fun K hK => ?o4) (AllReadyH.cons (o := { dst := _, op := _, type := _, pos := _, after := _, guard := _ }) rfl (fun K hK => ?o7) AllReadyH.nil)
  case o4 =>
    go_simp
    refine hK.out _ _ (Off.refl _ W2).drew (fun _ => ?_)
    clear hK K
    refine wpAnyH_ready (rs := [7]) (by kernel_rfl) (by simp) ?_
    refine AllReadyH.cons (o := { dst := _, op := _, type := _, pos := _, after := _, guard := _ }) rfl (fun K hK => ?_) AllReadyH.nil
    go_simp
    refine hK.out _ _ ((Off.refl _ W2).alloc _).drew (fun _ => ?_)
    clear hK K
    refine wpAnyH_ready (rs := [8]) (by kernel_rfl) (by simp) ?_
    refine AllReadyH.cons (o := { dst := _, op := _, type := _, pos := _, after := _, guard := _ }) rfl (fun K hK => ?_) AllReadyH.nil
    rw [if_pos (show Region.wanted _ _ = true from rfl)]
    refine wp_appS W2.drew _ _ 81 rfl (b + 1) 88 _ 5 40 Try.underlying81 Try.info88 (by decide) rfl (by decide) (World.ownsRow.drew W.own) (stC ⟨r, false, 0⟩) rfl rfl rfl rfl (st_one _) (by omega) (by show b + 1 ≤ W2.heap.size; omega) ?_
    intro v4 w4 ho4 hg4 hv4
    have hO4 : Off (fun k => k = b ∨ (Value.slice vo l.length vc).ownBlock = some k) W2 w4 := ⟨Nat.le_trans (by simp) hg4.size, fun k hk hf => (hg4.block k (by simp; omega) (fun e => hf (.inr e.symm))).trans (Below.heap_alloc _ _ _ hk)⟩
    have hh4 : w4.heap[b]? = some (.cells #[.slice vo l.length vc, .int .i64 last] 83 (0, 0)) := (hg4.block b (by simp; omega) (fun e => by have := (HVL.out b e.symm).1; omega)).trans ((Below.heap_alloc _ _ _ (by simp; omega)).trans W.head)
    have hB4 : Below b W2 w4 := ((Below.refl b W2).drew.alloc (by simp; omega) _).grown hg4 (by simp; omega) (fun k e => by have := (HVL.out k e).1; omega)
    simp only [Act.put, List.setIfInBounds_toArray, List.set_cons_zero, List.set_cons_succ]
    refine hK.out _ _ hO4 (fun _ => ?_)
    clear hK K
    refine wpAnyH_take (i := 9) (oi := { dst := _, op := _, type := _, pos := _, after := _, guard := _ }) (v := ?vb9) rfl (by kernel_rfl) (by kernel_rfl) (by kernel_rfl) (fun _ _ _ h => h) (Or.inl ⟨by rfl, ?yb9⟩) (by assumption) ?rb9; (case yb9 => intro w hSw; go_simp <;> with_reducible rfl); simp only [Act.put, List.setIfInBounds_toArray, List.set_cons_zero, List.set_cons_succ]
    refine wpAnyH_take (i := 10) (oi := { dst := _, op := _, type := _, pos := _, after := _, guard := _ }) (v := ?vb10) rfl (by kernel_rfl) (by kernel_rfl) (by kernel_rfl) (fun _ _ _ h => h) (Or.inl ⟨by rfl, ?yb10⟩) (by assumption) ?rb10; (case yb10 => intro w hSw; go_simp <;> with_reducible rfl); simp only [Act.put, List.setIfInBounds_toArray, List.set_cons_zero, List.set_cons_succ]
    refine wpAnyH_ready (rs := [11]) (by kernel_rfl) (by simp) ?_
    refine AllReadyH.cons (o := { dst := _, op := _, type := _, pos := _, after := _, guard := _ }) rfl (fun K hK => ?_) AllReadyH.nil
    obtain ⟨p4, cp4, rfl, -, -⟩ := ownN_form ho4
    have q4 : w4.cell? ⟨b, 0, none⟩ = some (.slice vo l.length vc) := by rw [cell_of_row w4 b _ _ 83 (0, 0) hh4]; rfl
    have f4 : w4.frozen? ⟨b, 0, none⟩ = false := frozen_of_row w4 b 0 _ 83 hh4
    rw [if_pos (show Region.wanted _ _ = true from rfl)]
    go_simp
    have hO5 : Off (fun k => k = b ∨ (Value.slice vo l.length vc).ownBlock = some k) W2 (w4.setCell ⟨b, 0, none⟩ (.slice p4 (l.length + 1) cp4)) := hO4.setCell (a := ⟨b, 0, none⟩) (.inl rfl) _
    refine hK.out _ _ hO5 (fun _ => ?_)
    clear hK K
    refine wpAnyH_done (by kernel_rfl) ?_ _
    have W5 : WV (w4.setCell ⟨b, 0, none⟩ (.slice p4 (l.length + 1) cp4)) b (.slice p4 (l.length + 1) cp4) (l ++ [⟨r, false, 0⟩]) last := by
      refine ⟨heap_setCell_same w4 b 0 _ 83 (.slice p4 (l.length + 1) cp4) hh4, ?_⟩
      have h2 := ownN_keepAt ho4 (w' := w4.setCell ⟨b, 0, none⟩ (.slice p4 (l.length + 1) cp4)) (fun j hj => Below.heap_setCell _ _ _ _ (by have := (World.ownsRow.lt ho4 j hj).1; simp; omega))
      rw [List.flatMap_append, List.length_append]
      simpa using h2
    have B5 := (hB2.trans hB4).setCell (p := ⟨b, 0, none⟩) (Nat.le_refl _) (.slice p4 (l.length + 1) cp4)
    obtain ⟨e0, e1⟩ := W5.c0
    go_wp2_with fail
    go_ret2
    exact ⟨_, by simp, W5, hv4.elim .inl (fun h => .inr ⟨_, h, by have e : W2.drew.heap.size = W2.heap.size := rfl; omega⟩), O.trans hO5, B5⟩
  case o7 =>
    go_simp
    refine hK.out _ _ ((Off.refl _ W2).alloc _).drew (fun _ => ?_)
    clear hK K
    have hm3' : (W2.alloc (.cells #[.int .u8 r.kind, .int .u64 r.job, .int .i64 r.n, .bool false, .int .i64 0] 88)).cell? ⟨b, 0, none⟩ = some (.slice vo l.length vc) := ((Below.refl _ W2).alloc (Nat.le_refl _) _).cell (p := ⟨b, 0, none⟩) (by show b < W2.heap.size; omega) |>.trans c0
    refine wpAnyH_ready (rs := [4]) (by kernel_rfl) (by simp) ?_
    refine AllReadyH.cons (o := { dst := _, op := _, type := _, pos := _, after := _, guard := _ }) rfl (fun K hK => ?_) AllReadyH.nil
    go_simp
    refine hK.out _ _ ((Off.refl _ W2).alloc _).drew (fun _ => ?_)
    clear hK K hm3'
    refine wpAnyH_ready (rs := [8]) (by kernel_rfl) (by simp) ?_
    refine AllReadyH.cons (o := { dst := _, op := _, type := _, pos := _, after := _, guard := _ }) rfl (fun K hK => ?_) AllReadyH.nil
    rw [if_pos (show Region.wanted _ _ = true from rfl)]
    refine wp_appS W2.drew _ _ 81 rfl (b + 1) 88 _ 5 40 Try.underlying81 Try.info88 (by decide) rfl (by decide) (World.ownsRow.drew W.own) (stC ⟨r, false, 0⟩) rfl rfl rfl rfl (st_one _) (by omega) (by show b + 1 ≤ W2.heap.size; omega) ?_
    intro v4 w4 ho4 hg4 hv4
    have hO4 : Off (fun k => k = b ∨ (Value.slice vo l.length vc).ownBlock = some k) W2 w4 := ⟨Nat.le_trans (by simp) hg4.size, fun k hk hf => (hg4.block k (by simp; omega) (fun e => hf (.inr e.symm))).trans (Below.heap_alloc _ _ _ hk)⟩
    have hh4 : w4.heap[b]? = some (.cells #[.slice vo l.length vc, .int .i64 last] 83 (0, 0)) := (hg4.block b (by simp; omega) (fun e => by have := (HVL.out b e.symm).1; omega)).trans ((Below.heap_alloc _ _ _ (by simp; omega)).trans W.head)
    have hB4 : Below b W2 w4 := ((Below.refl b W2).drew.alloc (by simp; omega) _).grown hg4 (by simp; omega) (fun k e => by have := (HVL.out k e).1; omega)
    simp only [Act.put, List.setIfInBounds_toArray, List.set_cons_zero, List.set_cons_succ]
    refine hK.out _ _ hO4 (fun _ => ?_)
    clear hK K
    refine wpAnyH_take (i := 9) (oi := { dst := _, op := _, type := _, pos := _, after := _, guard := _ }) (v := ?vc9) rfl (by kernel_rfl) (by kernel_rfl) (by kernel_rfl) (fun _ _ _ h => h) (Or.inl ⟨by rfl, ?yc9⟩) (by assumption) ?rc9; (case yc9 => intro w hSw; go_simp <;> with_reducible rfl); simp only [Act.put, List.setIfInBounds_toArray, List.set_cons_zero, List.set_cons_succ]
    refine wpAnyH_take (i := 10) (oi := { dst := _, op := _, type := _, pos := _, after := _, guard := _ }) (v := ?vc10) rfl (by kernel_rfl) (by kernel_rfl) (by kernel_rfl) (fun _ _ _ h => h) (Or.inl ⟨by rfl, ?yc10⟩) (by assumption) ?rc10; (case yc10 => intro w hSw; go_simp <;> with_reducible rfl); simp only [Act.put, List.setIfInBounds_toArray, List.set_cons_zero, List.set_cons_succ]
    refine wpAnyH_ready (rs := [11]) (by kernel_rfl) (by simp) ?_
    refine AllReadyH.cons (o := { dst := _, op := _, type := _, pos := _, after := _, guard := _ }) rfl (fun K hK => ?_) AllReadyH.nil
    obtain ⟨p4, cp4, rfl, -, -⟩ := ownN_form ho4
    have q4 : w4.cell? ⟨b, 0, none⟩ = some (.slice vo l.length vc) := by rw [cell_of_row w4 b _ _ 83 (0, 0) hh4]; rfl
    have f4 : w4.frozen? ⟨b, 0, none⟩ = false := frozen_of_row w4 b 0 _ 83 hh4
    rw [if_pos (show Region.wanted _ _ = true from rfl)]
    go_simp
    have hO5 : Off (fun k => k = b ∨ (Value.slice vo l.length vc).ownBlock = some k) W2 (w4.setCell ⟨b, 0, none⟩ (.slice p4 (l.length + 1) cp4)) := hO4.setCell (a := ⟨b, 0, none⟩) (.inl rfl) _
    refine hK.out _ _ hO5 (fun _ => ?_)
    clear hK K
    refine wpAnyH_done (by kernel_rfl) ?_ _
    have W5 : WV (w4.setCell ⟨b, 0, none⟩ (.slice p4 (l.length + 1) cp4)) b (.slice p4 (l.length + 1) cp4) (l ++ [⟨r, false, 0⟩]) last := by
      refine ⟨heap_setCell_same w4 b 0 _ 83 (.slice p4 (l.length + 1) cp4) hh4, ?_⟩
      have h2 := ownN_keepAt ho4 (w' := w4.setCell ⟨b, 0, none⟩ (.slice p4 (l.length + 1) cp4)) (fun j hj => Below.heap_setCell _ _ _ _ (by have := (World.ownsRow.lt ho4 j hj).1; simp; omega))
      rw [List.flatMap_append, List.length_append]
      simpa using h2
    have B5 := (hB2.trans hB4).setCell (p := ⟨b, 0, none⟩) (Nat.le_refl _) (.slice p4 (l.length + 1) cp4)
    obtain ⟨e0, e1⟩ := W5.c0
    go_wp2_with fail
    go_ret2
    exact ⟨_, by simp, W5, hv4.elim .inl (fun h => .inr ⟨_, h, by have e : W2.drew.heap.size = W2.heap.size := rfl; omega⟩), O.trans hO5, B5⟩
end Go.Proofs.Ytaepkmjlkenenaa
