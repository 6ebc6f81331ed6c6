/- The reference's Taker. -/
import Derived.Test.YtlcnjinabfbglaaR18
namespace Go.Proofs.Ytlcnjinabfbglaa
open Go.RowKit
set_option maxRecDepth 100000 in
theorem refTake_neg (v : Value) (l : List UInt8) (w : World) (hB : Bts w v l) : Calls Try.prog 78 #[v, .int .i64 (-1)] w fun e w' => e = .returned (.tuple #[.int .u64 0, .int .i64 0, .int .i64 2]) ∧ w = w' := by
  obtain ⟨ao, cap, rfl, -, -, -⟩ := hB.form
  go_enter Try.func78, Try.ntmps78
  go_wp2_with fail
  go_ret3
  exact ⟨rfl, rfl⟩
def atOf : Option Nat → Int
  | none => -1
  | some a => (a : Int)
/-- where a taker stands -/
structure TK (C : Nat) (v : Value) (b : List UInt8) (s : Option Nat) (W : World) : Prop where
  row : W.heap[C]? = some (.cells #[v, .int .i64 (atOf s)] 88 (0, 0))
  le : ∀ a, s = some a → a ≤ b.length
theorem TK.kt {C : Nat} {v : Value} {b : List UInt8} {s : Option Nat} {W W' : World} (h : TK C v b s W) (hk : KT 88 W W') : TK C v b s W' := ⟨hk _ _ _ h.row, h.le⟩
theorem TK.lt {C : Nat} {v : Value} {b : List UInt8} {s : Option Nat} {W : World} (h : TK C v b s W) : C < W.heap.size := (Array.getElem?_eq_some_iff.1 h.row).1
theorem TK.c0 {C : Nat} {v : Value} {b : List UInt8} {s : Option Nat} {W : World} (h : TK C v b s W) : W.cell? ⟨C, 0, none⟩ = some v := by rw [cell_of_row W C _ _ 88 (0, 0) h.row]; rfl
theorem TK.c1 {C : Nat} {v : Value} {b : List UInt8} {s : Option Nat} {W : World} (h : TK C v b s W) : W.cell? ⟨C, 1, none⟩ = some (.int .i64 (atOf s)) := by rw [cell_of_row W C _ _ 88 (0, 0) h.row]; rfl
theorem TK.set {C : Nat} {v : Value} {b : List UInt8} {s s' : Option Nat} {W : World} (h : TK C v b s W) (hs : ∀ a, s' = some a → a ≤ b.length) : TK C v b s' (W.setCell ⟨C, 1, none⟩ (.int .i64 (atOf s'))) :=
  ⟨heap_setCell_same W C 1 _ 88 _ h.row, hs⟩
/-- what a number's taking gives -/
theorem take_tk (v : Value) (b : List UInt8) (s : Option Nat) (w : World) (hB : ∀ W, Below w.heap.size w W → Bts W v b) (hs : ∀ a, s = some a → a ≤ b.length) (hl : b.length ≤ 1000000) : ∃ (n : Nat) (j e : Int),
    ((e = 0 ∧ j = atOf (Rp.numO b Rp.any s).2 ∧ n = (Rp.numO b Rp.any s).1 ∧ (Rp.numO b Rp.any s).2.isSome = true) ∨ (e ≠ 0 ∧ Rp.numO b Rp.any s = (0, none))) ∧
    ∀ W, Below w.heap.size w W → Calls Try.prog 78 #[v, .int .i64 (atOf s)] W fun r w' => r = .returned (.tuple #[.int .u64 (n : Int), .int .i64 j, .int .i64 e]) ∧ Below W.heap.size W w' := by
  cases s with
  | none => exact ⟨0, 0, 2, .inr ⟨by decide, rfl⟩, fun W hW => (refTake_neg v b W (hB W hW)).mono (by rintro r w' ⟨rfl, rfl⟩; exact ⟨rfl, Below.refl _ _⟩)⟩
  | some a =>
    have ha := hs a rfl
    have h := fun W hW => refTake_any v b a W (hB W hW) ha (by omega)
    unfold Rp.numO
    simp only
    cases ht : Pk.take b a with
    | none =>
      rw [ht] at h
      exact ⟨0, 0, 4, .inr ⟨by decide, rfl⟩, h⟩
    | some p =>
      obtain ⟨n, j⟩ := p
      rw [ht] at h
      have hn := Pk.take_lt b a n j ht
      simp only
      rw [if_pos (show n ≤ Rp.any by unfold Rp.any; omega)]
      exact ⟨n, j, 0, .inl ⟨rfl, rfl, rfl, rfl⟩, h⟩
theorem numO_at (b : List UInt8) (m : Nat) (s : Option Nat) (hs : ∀ a, s = some a → a ≤ b.length) : ∀ a, (Rp.numO b m s).2 = some a → a ≤ b.length := by
  intro j hj
  obtain ⟨a, h0, -, -, -, -, h⟩ := Rp.numO_some b m s (Rp.numO b m s).1 j (by rw [← hj])
  exact h (hs a h0)
set_option maxRecDepth 100000 in
set_option maxHeartbeats 2000000 in
theorem rnum_tk (C : Nat) (v : Value) (b : List UInt8) (s : Option Nat) (w : World) (hT : TK C v b s w) (hB : ∀ W, Below w.heap.size w W → Bts W v b) (hl : b.length ≤ 1000000) :
    Calls Try.prog 63 #[.pointer (some ⟨C, 0, none⟩)] w fun r w' => r = .returned (u64 (Rp.numO b Rp.any s).1) ∧ TK C v b (Rp.numO b Rp.any s).2 w' ∧ Below C w w' ∧ ∀ T : TypeId, T ≠ 88 → KT T w w' := by
  obtain ⟨n, j, e, hR, hcall⟩ := take_tk v b s w hB hT.le hl
  have hat := numO_at b Rp.any s hT.le
  obtain ⟨ao, cap, rfl, -, -, -⟩ := (hB w (Below.refl _ _)).form
  have hCl := hT.lt
  have c0 := fun W (hW : Below w.heap.size w W) => (hT.kt (KT.below hW _)).c0
  have c1 := fun W (hW : Below w.heap.size w W) => (hT.kt (KT.below hW _)).c1
  have hfin : ∀ x1, Below w.heap.size w x1 → ∀ s', (∀ a, s' = some a → a ≤ b.length) → TK C (.slice ao b.length cap) b s' (x1.setCell ⟨C, 1, none⟩ (.int .i64 (atOf s'))) ∧ Below C w (x1.setCell ⟨C, 1, none⟩ (.int .i64 (atOf s'))) ∧ ∀ T : TypeId, T ≠ 88 → KT T w (x1.setCell ⟨C, 1, none⟩ (.int .i64 (atOf s'))) := fun x1 hb s' hs' =>
    ⟨(hT.kt (KT.below hb _)).set hs', (hb.mono (Nat.le_of_lt hCl)).setCell (p := ⟨C, 1, none⟩) (Nat.le_refl C) _, fun T hTT => (KT.below hb T).trans (KT.setRow (hT.kt (KT.below hb _)).row (Ne.symm hTT) 1 _)⟩
  have fz := fun W (hW : Below w.heap.size w W) => frozen_of_row W C 1 _ 88 (hT.kt (KT.below hW _)).row
  obtain ⟨R, hRR⟩ : ∃ R, Rp.numO b Rp.any s = R := ⟨_, rfl⟩
  rw [hRR] at hR hat ⊢
  have HR := Lib.hid hR
  have HA := Lib.hid hat
  have HFin := Lib.hid hfin
  clear hR hat hfin hRR hB
  obtain ⟨ix, hix⟩ : ∃ ix, atOf s = ix := ⟨_, rfl⟩
  simp only [hix] at c1 hcall
  go_enter Try.func63, Try.ntmps63
  go_wp2_with fail
  refine wp_region_held_drew (S := fun w' => Below w.heap.size w w') (by kernel_rfl) (Below.refl _ _).drew (fun h0 => ?_)
  refine wpAnyH_take (i := 0) (oi := { dst := _, op := _, type := _, pos := _, after := _, guard := _ }) (v := ?vn630) rfl (by kernel_rfl) (by kernel_rfl) (by kernel_rfl) (fun _ _ _ h => h) (Or.inl ⟨by rfl, ?yn630⟩) (by assumption) ?rn630; (case yn630 => intro w hSw; have d0 := c0 w hSw; have d1 := c1 w hSw; go_simp <;> with_reducible rfl); simp only [Act.put, List.setIfInBounds_toArray, List.set_cons_zero, List.set_cons_succ]
  refine wpAnyH_take (i := 1) (oi := { dst := _, op := _, type := _, pos := _, after := _, guard := _ }) (v := ?vn631) rfl (by kernel_rfl) (by kernel_rfl) (by kernel_rfl) (fun _ _ _ h => h) (Or.inl ⟨by rfl, ?yn631⟩) (by assumption) ?rn631; (case yn631 => intro w hSw; have d0 := c0 w hSw; have d1 := c1 w hSw; go_simp <;> with_reducible rfl); simp only [Act.put, List.setIfInBounds_toArray, List.set_cons_zero, List.set_cons_succ]
  refine wpAnyH_take (i := 2) (oi := { dst := _, op := _, type := _, pos := _, after := _, guard := _ }) (v := ?vn632) rfl (by kernel_rfl) (by kernel_rfl) (by kernel_rfl) (fun _ _ _ h => h) (Or.inl ⟨by rfl, ?yn632⟩) (by assumption) ?rn632; (case yn632 => intro w hSw; have d0 := c0 w hSw; have d1 := c1 w hSw; go_simp <;> with_reducible rfl); simp only [Act.put, List.setIfInBounds_toArray, List.set_cons_zero, List.set_cons_succ]
  refine wpAnyH_take (i := 3) (oi := { dst := _, op := _, type := _, pos := _, after := _, guard := _ }) (v := ?vn633) rfl (by kernel_rfl) (by kernel_rfl) (by kernel_rfl) (fun _ _ _ h => h) (Or.inl ⟨by rfl, ?yn633⟩) (by assumption) ?rn633; (case yn633 => intro w hSw; have d0 := c0 w hSw; have d1 := c1 w hSw; go_simp <;> with_reducible rfl); simp only [Act.put, List.setIfInBounds_toArray, List.set_cons_zero, List.set_cons_succ]
  refine wpAnyH_take (i := 4) (oi := { dst := _, op := _, type := _, pos := _, after := _, guard := _ }) (v := ?vn634) rfl (by kernel_rfl) (by kernel_rfl) (by kernel_rfl) (fun _ _ _ h => h) (Or.inl ⟨by rfl, ?yn634⟩) (by assumption) ?rn634; (case yn634 => intro w hSw; have d0 := c0 w hSw; have d1 := c1 w hSw; go_simp <;> with_reducible rfl); simp only [Act.put, List.setIfInBounds_toArray, List.set_cons_zero, List.set_cons_succ]
  refine wpAnyH_take (i := 5) (oi := { dst := _, op := _, type := _, pos := _, after := _, guard := _ }) (v := ?vn635) rfl (by kernel_rfl) (by kernel_rfl) (by kernel_rfl) (fun _ _ _ h => h) (Or.inl ⟨by rfl, ?yn635⟩) (by assumption) ?rn635; (case yn635 => intro w hSw; have d0 := c0 w hSw; have d1 := c1 w hSw; go_simp <;> with_reducible rfl); simp only [Act.put, List.setIfInBounds_toArray, List.set_cons_zero, List.set_cons_succ]
  refine wpAnyH_take (i := 6) (oi := { dst := _, op := _, type := _, pos := _, after := _, guard := _ }) (v := ?vn636) rfl (by kernel_rfl) (by kernel_rfl) (by kernel_rfl) (fun _ _ _ h => h) (Or.inl ⟨by rfl, ?yn636⟩) (by assumption) ?rn636; (case yn636 => intro w hSw; have d0 := c0 w hSw; have d1 := c1 w hSw; go_simp <;> with_reducible rfl); simp only [Act.put, List.setIfInBounds_toArray, List.set_cons_zero, List.set_cons_succ]
  refine wpAnyH_take (i := 7) (oi := { dst := _, op := _, type := _, pos := _, after := _, guard := _ }) (v := ?vn637) rfl (by kernel_rfl) (by kernel_rfl) (by kernel_rfl) (fun _ _ _ h => h) (Or.inl ⟨by rfl, ?yn637⟩) (by assumption) ?rn637; (case yn637 => intro w hSw; have d0 := c0 w hSw; have d1 := c1 w hSw; go_simp <;> with_reducible rfl); simp only [Act.put, List.setIfInBounds_toArray, List.set_cons_zero, List.set_cons_succ]
  refine wpAnyH_ready (rs := [8]) (by kernel_rfl) (by simp) ?_
  refine AllReadyH.cons (o := { dst := _, op := _, type := _, pos := _, after := _, guard := _ }) rfl (fun K hK => ?_) AllReadyH.nil
  go_simp
  refine (hcall w.drew (Below.refl w.heap.size w).drew).mono ?_
  rintro e x1 ⟨rfl, hc1⟩
  have hd1 : Below w.heap.size w x1 := (Below.refl w.heap.size w).drew.trans hc1
  refine hK.out _ _ hd1 (fun _ => ?_)
  clear hK K
  refine wpAnyH_take (i := 9) (oi := { dst := _, op := _, type := _, pos := _, after := _, guard := _ }) (v := ?vn639) rfl (by kernel_rfl) (by kernel_rfl) (by kernel_rfl) (fun _ _ _ h => h) (Or.inl ⟨by rfl, ?yn639⟩) (by assumption) ?rn639; (case yn639 => intro w hSw; have d0 := c0 w hSw; have d1 := c1 w hSw; go_simp <;> with_reducible rfl); simp only [Act.put, List.setIfInBounds_toArray, List.set_cons_zero, List.set_cons_succ]
  refine wpAnyH_take (i := 10) (oi := { dst := _, op := _, type := _, pos := _, after := _, guard := _ }) (v := ?vn6310) rfl (by kernel_rfl) (by kernel_rfl) (by kernel_rfl) (fun _ _ _ h => h) (Or.inl ⟨by rfl, ?yn6310⟩) (by assumption) ?rn6310; (case yn6310 => intro w hSw; have d0 := c0 w hSw; have d1 := c1 w hSw; go_simp <;> with_reducible rfl); simp only [Act.put, List.setIfInBounds_toArray, List.set_cons_zero, List.set_cons_succ]
  refine wpAnyH_take (i := 11) (oi := { dst := _, op := _, type := _, pos := _, after := _, guard := _ }) (v := ?vn6311) rfl (by kernel_rfl) (by kernel_rfl) (by kernel_rfl) (fun _ _ _ h => h) (Or.inl ⟨by rfl, ?yn6311⟩) (by assumption) ?rn6311; (case yn6311 => intro w hSw; have d0 := c0 w hSw; have d1 := c1 w hSw; go_simp <;> with_reducible rfl); simp only [Act.put, List.setIfInBounds_toArray, List.set_cons_zero, List.set_cons_succ]
  refine wpAnyH_take (i := 12) (oi := { dst := _, op := _, type := _, pos := _, after := _, guard := _ }) (v := ?vn6312) rfl (by kernel_rfl) (by kernel_rfl) (by kernel_rfl) (fun _ _ _ h => h) (Or.inl ⟨by rfl, ?yn6312⟩) (by assumption) ?rn6312; (case yn6312 => intro w hSw; have d0 := c0 w hSw; have d1 := c1 w hSw; go_simp <;> with_reducible rfl); simp only [Act.put, List.setIfInBounds_toArray, List.set_cons_zero, List.set_cons_succ]
  refine wpAnyH_take (i := 13) (oi := { dst := _, op := _, type := _, pos := _, after := _, guard := _ }) (v := ?vn6313) rfl (by kernel_rfl) (by kernel_rfl) (by kernel_rfl) (fun _ _ _ h => h) (Or.inl ⟨by rfl, ?yn6313⟩) (by assumption) ?rn6313; (case yn6313 => intro w hSw; have d0 := c0 w hSw; have d1 := c1 w hSw; go_simp <;> with_reducible rfl); simp only [Act.put, List.setIfInBounds_toArray, List.set_cons_zero, List.set_cons_succ]
  refine wpAnyH_take (i := 14) (oi := { dst := _, op := _, type := _, pos := _, after := _, guard := _ }) (v := ?vn6314) rfl (by kernel_rfl) (by kernel_rfl) (by kernel_rfl) (fun _ _ _ h => h) (Or.inl ⟨by rfl, ?yn6314⟩) (by assumption) ?rn6314; (case yn6314 => intro w hSw; have d0 := c0 w hSw; have d1 := c1 w hSw; go_simp <;> with_reducible rfl); simp only [Act.put, List.setIfInBounds_toArray, List.set_cons_zero, List.set_cons_succ]
  refine wpAnyH_take (i := 15) (oi := { dst := _, op := _, type := _, pos := _, after := _, guard := _ }) (v := ?vn6315) rfl (by kernel_rfl) (by kernel_rfl) (by kernel_rfl) (fun _ _ _ h => h) (Or.inl ⟨by rfl, ?yn6315⟩) (by assumption) ?rn6315; (case yn6315 => intro w hSw; have d0 := c0 w hSw; have d1 := c1 w hSw; go_simp <;> with_reducible rfl); simp only [Act.put, List.setIfInBounds_toArray, List.set_cons_zero, List.set_cons_succ]
  refine wpAnyH_done (by kernel_rfl) ?_ _
  have hf1 := fz x1 hd1
  have hc1' := c1 x1 hd1
  clear c0 c1 fz hcall
  rcases HR.out with ⟨he, hj, hn, hsome⟩ | ⟨he, h0⟩
  · subst he hj hn
    go_wp2_with fail
    go_ret
    exact ⟨rfl, HFin.out x1 hd1 _ HA.out⟩
  · have he1 : (e == 0) = false := by rw [beq_eq_false_iff_ne]; exact he
    have he2 : (e != 0) = true := by rw [bne_iff_ne]; exact he
    subst h0
    go_wp2_with fail
    go_ret
    exact ⟨rfl, HFin.out x1 hd1 none (fun a h => by cases h)⟩
set_option maxRecDepth 100000 in
set_option maxHeartbeats 2000000 in
theorem rtext_tk (C : Nat) (v : Value) (b : List UInt8) (a : Nat) (w : World) (hT : TK C v b (some a) w) (hB : ∀ W, Below w.heap.size w W → Bts W v b) (hl : b.length ≤ 1000000) :
    Calls Try.prog 65 #[.pointer (some ⟨C, 0, none⟩)] w fun r w' => r = .returned (.string ⟨(match Pk.takeText b a with | none => [] | some p => p.1).toArray⟩) ∧ TK C v b (match Pk.takeText b a with | none => none | some p => some p.2) w' ∧ Below C w w' ∧ ∀ T : TypeId, T ≠ 88 → KT T w w' := by
  have ha := hT.le a rfl
  have hcall := fun W (hW : Below w.heap.size w W) => refTakeText_any v b a W (hB W hW) ha (by omega)
  obtain ⟨ao, cap, rfl, -, -, -⟩ := (hB w (Below.refl _ _)).form
  have hCl := hT.lt
  have c0 := fun W (hW : Below w.heap.size w W) => (hT.kt (KT.below hW _)).c0
  have c1 := fun W (hW : Below w.heap.size w W) => (hT.kt (KT.below hW _)).c1
  have hfin : ∀ x1, Below w.heap.size w x1 → ∀ s', (∀ a, s' = some a → a ≤ b.length) → TK C (.slice ao b.length cap) b s' (x1.setCell ⟨C, 1, none⟩ (.int .i64 (atOf s'))) ∧ Below C w (x1.setCell ⟨C, 1, none⟩ (.int .i64 (atOf s'))) ∧ ∀ T : TypeId, T ≠ 88 → KT T w (x1.setCell ⟨C, 1, none⟩ (.int .i64 (atOf s'))) := fun x1 hb s' hs' =>
    ⟨(hT.kt (KT.below hb _)).set hs', (hb.mono (Nat.le_of_lt hCl)).setCell (p := ⟨C, 1, none⟩) (Nat.le_refl C) _, fun T hTT => (KT.below hb T).trans (KT.setRow (hT.kt (KT.below hb _)).row (Ne.symm hTT) 1 _)⟩
  have fz := fun W (hW : Below w.heap.size w W) => frozen_of_row W C 1 _ 88 (hT.kt (KT.below hW _)).row
  have hjl : ∀ t j, Pk.takeText b a = some (t, j) → j ≤ b.length := fun t j h => (Pk.takeText_canon b a j t h).2.2.2 ha
  obtain ⟨R, hRR⟩ : ∃ R, Pk.takeText b a = R := ⟨_, rfl⟩
  rw [hRR] at hcall hjl ⊢
  have HFin := Lib.hid hfin
  clear hfin hRR hB
  simp only [atOf] at c1
  obtain ⟨tv, jv, ev, hTV⟩ : ∃ (t : List UInt8) (j e : Int), takeTV R = .tuple #[.string ⟨t.toArray⟩, .int .i64 j, .int .i64 e] := by
    cases R with
    | none => exact ⟨[], 0, 4, rfl⟩
    | some p => exact ⟨p.1, p.2, 0, rfl⟩
  have HTV := Lib.hid hTV
  rw [hTV] at hcall
  clear hTV
  go_enter Try.func65, Try.ntmps65
  go_wp2_with fail
  refine wp_region_held_drew (S := fun w' => Below w.heap.size w w') (by kernel_rfl) (Below.refl _ _).drew (fun h0 => ?_)
  refine wpAnyH_take (i := 0) (oi := { dst := _, op := _, type := _, pos := _, after := _, guard := _ }) (v := ?vn650) rfl (by kernel_rfl) (by kernel_rfl) (by kernel_rfl) (fun _ _ _ h => h) (Or.inl ⟨by rfl, ?yn650⟩) (by assumption) ?rn650; (case yn650 => intro w hSw; have d0 := c0 w hSw; have d1 := c1 w hSw; go_simp <;> with_reducible rfl); simp only [Act.put, List.setIfInBounds_toArray, List.set_cons_zero, List.set_cons_succ]
  refine wpAnyH_take (i := 1) (oi := { dst := _, op := _, type := _, pos := _, after := _, guard := _ }) (v := ?vn651) rfl (by kernel_rfl) (by kernel_rfl) (by kernel_rfl) (fun _ _ _ h => h) (Or.inl ⟨by rfl, ?yn651⟩) (by assumption) ?rn651; (case yn651 => intro w hSw; have d0 := c0 w hSw; have d1 := c1 w hSw; go_simp <;> with_reducible rfl); simp only [Act.put, List.setIfInBounds_toArray, List.set_cons_zero, List.set_cons_succ]
  refine wpAnyH_take (i := 2) (oi := { dst := _, op := _, type := _, pos := _, after := _, guard := _ }) (v := ?vn652) rfl (by kernel_rfl) (by kernel_rfl) (by kernel_rfl) (fun _ _ _ h => h) (Or.inl ⟨by rfl, ?yn652⟩) (by assumption) ?rn652; (case yn652 => intro w hSw; have d0 := c0 w hSw; have d1 := c1 w hSw; go_simp <;> with_reducible rfl); simp only [Act.put, List.setIfInBounds_toArray, List.set_cons_zero, List.set_cons_succ]
  refine wpAnyH_take (i := 3) (oi := { dst := _, op := _, type := _, pos := _, after := _, guard := _ }) (v := ?vn653) rfl (by kernel_rfl) (by kernel_rfl) (by kernel_rfl) (fun _ _ _ h => h) (Or.inl ⟨by rfl, ?yn653⟩) (by assumption) ?rn653; (case yn653 => intro w hSw; have d0 := c0 w hSw; have d1 := c1 w hSw; go_simp <;> with_reducible rfl); simp only [Act.put, List.setIfInBounds_toArray, List.set_cons_zero, List.set_cons_succ]
  refine wpAnyH_take (i := 4) (oi := { dst := _, op := _, type := _, pos := _, after := _, guard := _ }) (v := ?vn654) rfl (by kernel_rfl) (by kernel_rfl) (by kernel_rfl) (fun _ _ _ h => h) (Or.inl ⟨by rfl, ?yn654⟩) (by assumption) ?rn654; (case yn654 => intro w hSw; have d0 := c0 w hSw; have d1 := c1 w hSw; go_simp <;> with_reducible rfl); simp only [Act.put, List.setIfInBounds_toArray, List.set_cons_zero, List.set_cons_succ]
  refine wpAnyH_take (i := 5) (oi := { dst := _, op := _, type := _, pos := _, after := _, guard := _ }) (v := ?vn655) rfl (by kernel_rfl) (by kernel_rfl) (by kernel_rfl) (fun _ _ _ h => h) (Or.inl ⟨by rfl, ?yn655⟩) (by assumption) ?rn655; (case yn655 => intro w hSw; have d0 := c0 w hSw; have d1 := c1 w hSw; go_simp <;> with_reducible rfl); simp only [Act.put, List.setIfInBounds_toArray, List.set_cons_zero, List.set_cons_succ]
  refine wpAnyH_take (i := 6) (oi := { dst := _, op := _, type := _, pos := _, after := _, guard := _ }) (v := ?vn656) rfl (by kernel_rfl) (by kernel_rfl) (by kernel_rfl) (fun _ _ _ h => h) (Or.inl ⟨by rfl, ?yn656⟩) (by assumption) ?rn656; (case yn656 => intro w hSw; have d0 := c0 w hSw; have d1 := c1 w hSw; go_simp <;> with_reducible rfl); simp only [Act.put, List.setIfInBounds_toArray, List.set_cons_zero, List.set_cons_succ]
  refine wpAnyH_take (i := 7) (oi := { dst := _, op := _, type := _, pos := _, after := _, guard := _ }) (v := ?vn657) rfl (by kernel_rfl) (by kernel_rfl) (by kernel_rfl) (fun _ _ _ h => h) (Or.inl ⟨by rfl, ?yn657⟩) (by assumption) ?rn657; (case yn657 => intro w hSw; have d0 := c0 w hSw; have d1 := c1 w hSw; go_simp <;> with_reducible rfl); simp only [Act.put, List.setIfInBounds_toArray, List.set_cons_zero, List.set_cons_succ]
  refine wpAnyH_ready (rs := [8]) (by kernel_rfl) (by simp) ?_
  refine AllReadyH.cons (o := { dst := _, op := _, type := _, pos := _, after := _, guard := _ }) rfl (fun K hK => ?_) AllReadyH.nil
  go_simp
  refine (hcall w.drew (Below.refl w.heap.size w).drew).mono ?_
  rintro e x1 ⟨rfl, hc1⟩
  have hd1 : Below w.heap.size w x1 := (Below.refl w.heap.size w).drew.trans hc1
  refine hK.out _ _ hd1 (fun _ => ?_)
  clear hK K
  refine wpAnyH_take (i := 9) (oi := { dst := _, op := _, type := _, pos := _, after := _, guard := _ }) (v := ?vn659) rfl (by kernel_rfl) (by kernel_rfl) (by kernel_rfl) (fun _ _ _ h => h) (Or.inl ⟨by rfl, ?yn659⟩) (by assumption) ?rn659; (case yn659 => intro w hSw; have d0 := c0 w hSw; have d1 := c1 w hSw; go_simp <;> with_reducible rfl); simp only [Act.put, List.setIfInBounds_toArray, List.set_cons_zero, List.set_cons_succ]
  refine wpAnyH_take (i := 10) (oi := { dst := _, op := _, type := _, pos := _, after := _, guard := _ }) (v := ?vn6510) rfl (by kernel_rfl) (by kernel_rfl) (by kernel_rfl) (fun _ _ _ h => h) (Or.inl ⟨by rfl, ?yn6510⟩) (by assumption) ?rn6510; (case yn6510 => intro w hSw; have d0 := c0 w hSw; have d1 := c1 w hSw; go_simp <;> with_reducible rfl); simp only [Act.put, List.setIfInBounds_toArray, List.set_cons_zero, List.set_cons_succ]
  refine wpAnyH_take (i := 11) (oi := { dst := _, op := _, type := _, pos := _, after := _, guard := _ }) (v := ?vn6511) rfl (by kernel_rfl) (by kernel_rfl) (by kernel_rfl) (fun _ _ _ h => h) (Or.inl ⟨by rfl, ?yn6511⟩) (by assumption) ?rn6511; (case yn6511 => intro w hSw; have d0 := c0 w hSw; have d1 := c1 w hSw; go_simp <;> with_reducible rfl); simp only [Act.put, List.setIfInBounds_toArray, List.set_cons_zero, List.set_cons_succ]
  refine wpAnyH_take (i := 12) (oi := { dst := _, op := _, type := _, pos := _, after := _, guard := _ }) (v := ?vn6512) rfl (by kernel_rfl) (by kernel_rfl) (by kernel_rfl) (fun _ _ _ h => h) (Or.inl ⟨by rfl, ?yn6512⟩) (by assumption) ?rn6512; (case yn6512 => intro w hSw; have d0 := c0 w hSw; have d1 := c1 w hSw; go_simp <;> with_reducible rfl); simp only [Act.put, List.setIfInBounds_toArray, List.set_cons_zero, List.set_cons_succ]
  refine wpAnyH_take (i := 13) (oi := { dst := _, op := _, type := _, pos := _, after := _, guard := _ }) (v := ?vn6513) rfl (by kernel_rfl) (by kernel_rfl) (by kernel_rfl) (fun _ _ _ h => h) (Or.inl ⟨by rfl, ?yn6513⟩) (by assumption) ?rn6513; (case yn6513 => intro w hSw; have d0 := c0 w hSw; have d1 := c1 w hSw; go_simp <;> with_reducible rfl); simp only [Act.put, List.setIfInBounds_toArray, List.set_cons_zero, List.set_cons_succ]
  refine wpAnyH_take (i := 14) (oi := { dst := _, op := _, type := _, pos := _, after := _, guard := _ }) (v := ?vn6514) rfl (by kernel_rfl) (by kernel_rfl) (by kernel_rfl) (fun _ _ _ h => h) (Or.inl ⟨by rfl, ?yn6514⟩) (by assumption) ?rn6514; (case yn6514 => intro w hSw; have d0 := c0 w hSw; have d1 := c1 w hSw; go_simp <;> with_reducible rfl); simp only [Act.put, List.setIfInBounds_toArray, List.set_cons_zero, List.set_cons_succ]
  refine wpAnyH_take (i := 15) (oi := { dst := _, op := _, type := _, pos := _, after := _, guard := _ }) (v := ?vn6515) rfl (by kernel_rfl) (by kernel_rfl) (by kernel_rfl) (fun _ _ _ h => h) (Or.inl ⟨by rfl, ?yn6515⟩) (by assumption) ?rn6515; (case yn6515 => intro w hSw; have d0 := c0 w hSw; have d1 := c1 w hSw; go_simp <;> with_reducible rfl); simp only [Act.put, List.setIfInBounds_toArray, List.set_cons_zero, List.set_cons_succ]
  refine wpAnyH_done (by kernel_rfl) ?_ _
  have hf1 := fz x1 hd1
  have hc1' := c1 x1 hd1
  clear c0 c1 fz hcall
  have h := HTV.out
  cases R with
  | none =>
    simp only [takeTV, Value.tuple.injEq, Array.mk.injEq, List.cons.injEq, Value.int.injEq, Value.string.injEq, and_true, true_and] at h
    obtain ⟨ht, rfl, rfl⟩ := h
    clear ht
    go_wp2_with fail
    go_ret
    exact ⟨rfl, HFin.out x1 hd1 none (fun a h => by cases h)⟩
  | some p =>
    obtain ⟨t, j⟩ := p
    simp only [takeTV, Value.tuple.injEq, Array.mk.injEq, List.cons.injEq, Value.int.injEq, Value.string.injEq, ByteArray.mk.injEq, and_true, true_and] at h
    obtain ⟨ht, rfl, rfl⟩ := h
    obtain rfl : t = tv := ht
    have hj := hjl t j rfl
    clear hjl
    go_wp2_with fail
    go_ret
    exact ⟨rfl, HFin.out x1 hd1 (some j) (fun a h => by obtain rfl := Option.some.inj h; exact hj)⟩
end Go.Proofs.Ytlcnjinabfbglaa
