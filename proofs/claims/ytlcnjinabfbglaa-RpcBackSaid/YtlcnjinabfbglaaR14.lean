/- Put: the numbers, one by one. -/
import Derived.Test.YtlcnjinabfbglaaR12
import Derived.Test.YtlcnjinabfbglaaQ8
namespace Go.Proofs.Ytlcnjinabfbglaa
open Go.RowKit
/-- blocks of numbers are left -/
def K30 (A B : World) : Prop := ∀ (j : Nat) (cs : Array Value) (fr : Nat × Nat), A.heap[j]? = some (.cells cs 30 fr) → B.heap[j]? = some (.cells cs 30 fr)
theorem K30.refl (A : World) : K30 A A := fun _ _ _ h => h
theorem K30.trans {A B C : World} (h : K30 A B) (h2 : K30 B C) : K30 A C := fun j _ _ hj => h2 j _ _ (h j _ _ hj)
theorem K30.below {A B : World} (h : Below A.heap.size A B) : K30 A B := fun j _ _ hj => (h.block j (Array.getElem?_eq_some_iff.1 hj).1).trans hj
theorem K30.set {A : World} {b : Nat} {T : TypeId} {v : Value} (h : NumAt A b T v) (hT : T ≠ 30) (u : Value) : K30 A (A.setCell ⟨b, 0, none⟩ u) := fun j cs fr hj => by
  rw [Below.heap_setCell _ _ _ _ (show j ≠ b from ?_)]
  · exact hj
  · rintro rfl
    unfold NumAt at h
    rw [h] at hj
    simp only [Option.some.injEq, Obj.cells.injEq] at hj
    exact hT hj.2.1
theorem K30.grown {A B : World} {N : Nat} {v : Value} {l : List UInt8} (h : OwnB N A v l) (hg : A.grownBy B v.ownBlock) : K30 A B := fun j cs fr hj => by
  rw [hg.block j (Array.getElem?_eq_some_iff.1 hj).1 ?_]
  · exact hj
  · intro hob
    rcases h.2 with h0 | ⟨g, cap, cur, rfl, hb, hgg, h1⟩
    · rw [h0.1] at hob; cases hob
    · obtain rfl : j = g := by simpa [Value.ownBlock] using hob
      rw [hgg] at hj
      simp at hj
theorem wp_appB3 (w : World) {o : Oper} {a : Act} {K : Act → World → Prop} {Q : Exit → Act → World → Prop} (s x : Operand)
    (ho : o.op = .call { callee := .builtin .append, args := #[s, x], argTypes := #[22, 22] })
    (B : Nat) {v vx : Value} {l lx : List UInt8} (h : OwnB B w v l) (hX : Bts w vx lx) (hs : a.eval s = v) (hx : a.eval x = vx) (hsmall : l.length + lx.length ≤ 1000000) (hbase : B ≤ w.heap.size)
    (hK : ∀ ao' cap' w', OwnB B w' (.slice ao' (l.length + lx.length) cap') (l ++ lx) → Below B w w' → K30 w w' → K (a.put o.dst (.slice ao' (l.length + lx.length) cap')) w') : o.wp Try.prog a w K Q := by
  obtain ⟨ao, cap, rfl, h1, h2, h3⟩ := hX.form
  refine wp_app w s x 22 ho B 5 (.int .u8 0) 1 Try.underlying22 Try.info5 (by decide) rfl h hs ao _ cap (lx.map by8) hx h3 (List.length_map ..) (Sli.lie hX) (by8_one _) (by omega) hbase ?_
  intro v' w' k1 k2 k3
  obtain ⟨ao', cap', rfl, -, -⟩ := own_form k1
  refine hK ao' cap' w' ?_ k3 (K30.grown h k2)
  unfold OwnB
  rw [List.map_append, List.length_append]
  exact k1
theorem MvAt.keepAt {W W' : World} {N M : Nat} {x : MV} (h : MvAt W N x) (hb : Below M W W') (hl : N < M) : MvAt W' N x := (hb.block _ hl).trans h
theorem OwnB.keepAt {N _M : Nat} {w w' : World} {v : Value} {l : List UInt8} (h : OwnB N w v l) (hk : ∀ k, v.ownBlock = some k → w'.heap[k]? = w.heap[k]?) : OwnB N w' v l := ownN_keepAt h hk
theorem numsB_len : ∀ ns : List Nat, (Rp.numsB ns).length ≤ 10 * ns.length
  | [] => by simp [Rp.numsB]
  | n :: ns => by
    have := numsB_len ns
    have h := Pk.put_len n
    have e : Rp.numsB (n :: ns) = Pk.put n ++ Rp.numsB ns := by simp [Rp.numsB]
    rw [e, List.length_append, List.length_cons]
    omega
theorem numsB_take (ns : List Nat) (k : Nat) (h : k < ns.length) : Rp.numsB (ns.take (k + 1)) = Rp.numsB (ns.take k) ++ Pk.put (ns.getD k 0) := by
  rw [List.take_succ_eq_append_getElem h]
  simp only [Rp.numsB, List.flatMap_append, List.flatMap_cons, List.flatMap_nil, List.append_nil, List.getD_eq_getElem?_getD, List.getElem?_eq_getElem h, Option.getD_some]
set_option maxRecDepth 100000 in
set_option maxHeartbeats 2000000 in
theorem num_any (C : Nat) (va v : Value) (ns : List Nat) (l : List UInt8) (w : World) (hC : NumAt w C 22 v) (hO : OwnB (C + 1) w v l) (hN : ∀ w', Below C w w' → K30 w w' → Nums w' va ns) (hs : l.length + 10 * ns.length ≤ 1000000) :
    Calls Try.prog 56 #[va, .pointer (some ⟨C, 0, none⟩)] w fun r w' => r = .returned (.tuple #[]) ∧ ∃ v', NumAt w' C 22 v' ∧ OwnB (C + 1) w' v' (l ++ Rp.numsB ns) ∧ Below C w w' ∧ K30 w w' := by
  obtain ⟨ao, cap, rfl, h1, h2, h3⟩ := (hN w (Below.refl _ _) (K30.refl _)).form
  unfold maxLen at h2
  go_enter Try.func56, Try.ntmps56
  go_wp2_with fail
  go_loopw [7] (fun i wr => ∃ (k : Nat) (v' : Value), k ≤ ns.length ∧ i = .int .i64 k ∧ NumAt wr C 22 v' ∧ OwnB (C + 1) wr v' (l ++ Rp.numsB (ns.take k)) ∧ Below C w wr ∧ K30 w wr) (fun i _ => ns.length - (intOf i).toNat)
  case atStart => exact ⟨0, v, Nat.zero_le _, rfl, hC, by simpa [Rp.numsB] using hO, Below.refl _ _, K30.refl _⟩
  case round =>
    obtain ⟨k, v1, hk, rfl, hn, ho, hbel, hk30⟩ := hrel
    by_cases hlt : k < ns.length
    · have hlt' : (k : Int) < (ns.length : Int) := by omega
      have hNw := hN wr hbel hk30
      obtain ⟨b, off, rfl, hbl, hc⟩ := Nums.at hNw (by omega)
      have hck := hc k hlt
      have hx : ns.getD k 0 < 18446744073709551616 := hNw.lt hlt
      have htk := numsB_take ns k hlt
      have hlen := numsB_len (ns.take k)
      rw [List.length_take] at hlen
      have hpl := Pk.put_len (ns.getD k 0)
      generalize ns.getD k 0 = x at *
      have HT := Lib.hid htk
      obtain ⟨l1, hl1⟩ : ∃ l1, l1 = l ++ Rp.numsB (ns.take k) := ⟨_, rfl⟩
      have hl1n : l1.length + 10 ≤ 1000000 := by rw [hl1, List.length_append]; omega
      rw [← hl1] at ho
      have HL := Lib.hid hl1
      clear hc htk hlen hNw hl1
      obtain ⟨vo, vc, rfl, -, -⟩ := own_form ho
      have hfin : ∀ x2 ao2 ac2, OwnB (C + 1) x2 (.slice ao2 (l1.length + (Pk.put x).length) ac2) (l1 ++ Pk.put x) → NumAt x2 C 22 (.slice vo l1.length vc) → OwnB (C + 1) (x2.setCell ⟨C, 0, none⟩ (.slice ao2 (l1.length + (Pk.put x).length) ac2)) (.slice ao2 (l1.length + (Pk.put x).length) ac2) (l ++ Rp.numsB (ns.take (k + 1))) := fun x2 ao2 ac2 h1 h2 => by
        rw [HT.out, ← List.append_assoc, ← HL.out]
        exact OwnB.keepAt (_M := 0) h1 (fun j hj => Below.heap_setCell _ _ _ _ (by have := (h1.lt j hj).1; simp only; omega))
      have hcell := hn.cell
      go_wp2_with fail
      refine wp_region_held_drew (S := fun _ => True) (by kernel_rfl) trivial (fun h0 => ?_)
      refine wpAnyH_take (i := 1) (oi := { dst := _, op := _, type := _, pos := _, after := _, guard := _ }) (v := ?va1) rfl (by kernel_rfl) (by kernel_rfl) (by kernel_rfl) (fun _ _ _ h => h) (Or.inl ⟨by rfl, ?ya1⟩) (by trivial) ?ra1; (case ya1 => intro w hSw; go_simp <;> with_reducible rfl); simp only [Act.put, List.setIfInBounds_toArray, List.set_cons_zero, List.set_cons_succ]
      refine wpAnyH_ready (rs := [0, 2]) (by kernel_rfl) (by simp) ?_
      refine AllReadyH.cons (o := { dst := _, op := _, type := _, pos := _, after := _, guard := _ }) rfl (fun K hK => ?_) (AllReadyH.cons (o := { dst := _, op := _, type := _, pos := _, after := _, guard := _ }) rfl (fun K hK => ?_) AllReadyH.nil)
      focus
        go_simp
        refine hK.out _ _ trivial (fun _ => ?_)
        clear hK K
        refine wpAnyH_ready (rs := [2]) (by kernel_rfl) (by simp) ?_
        refine AllReadyH.cons (o := { dst := _, op := _, type := _, pos := _, after := _, guard := _ }) rfl (fun K hK => ?_) AllReadyH.nil
        go_simp
        refine (put_any x _ hx).mono ?_
        rintro e x1 ⟨y1, rfl, hy1, hc1⟩
        have hd1 : Below wr.heap.size wr x1 := (Below.refl wr.heap.size wr).drew.trans hc1
        have hn1 := hn.keepAt hd1 hn.lt
        have ho1 := OwnB.keep (w := wr) ho hd1
        have hk1 := K30.below hd1
        refine hK.out _ _ trivial (fun _ => ?_)
        clear hK K
        refine wpAnyH_ready (rs := [3]) (by kernel_rfl) (by simp) ?_
        refine AllReadyH.cons (o := { dst := _, op := _, type := _, pos := _, after := _, guard := _ }) rfl (fun K hK => ?_) AllReadyH.nil
        refine wp_appB3 x1 _ _ rfl (C + 1) ho1 hy1.bts rfl rfl (by omega) (Nat.le_trans hn.lt hd1.size) ?_
        intro ao2 ac2 x2 ho2 hc2 hk2
        have hn2 := hn1.keepAt hc2 (Nat.lt_succ_self _)
        simp only [Act.put, List.setIfInBounds_toArray, List.set_cons_zero, List.set_cons_succ]
        refine hK.out _ _ trivial (fun _ => ?_)
        clear hK K
        refine wpAnyH_ready (rs := [4]) (by kernel_rfl) (by simp) ?_
        refine AllReadyH.cons (o := { dst := _, op := _, type := _, pos := _, after := _, guard := _ }) rfl (fun K hK => ?_) AllReadyH.nil
        have fr := hn2.froz
        have fc := hn2.cell
        go_simp
        refine hK.out _ _ trivial (fun _ => ?_)
        clear hK K
        refine wpAnyH_done (by kernel_rfl) ?_ _
        go_wp2_with fail
        exact ⟨⟨k + 1, _, by omega, by go_num, hn2.set _, hfin _ _ _ ho2 hn2, (hbel.trans (hd1.mono (Nat.le_of_lt hn.lt))).trans ((hc2.mono (Nat.le_succ _)).trans ((Below.refl C x2).setCell (p := ⟨C, 0, none⟩) (Nat.le_refl C) _)), ((hk30.trans hk1).trans hk2).trans (K30.set hn2 (by decide) _)⟩, by simp [intOf]; omega⟩
      focus
        go_simp
        refine (put_any x _ hx).mono ?_
        rintro e x1 ⟨y1, rfl, hy1, hc1⟩
        have hd1 : Below wr.heap.size wr x1 := (Below.refl wr.heap.size wr).drew.trans hc1
        have hn1 := hn.keepAt hd1 hn.lt
        have ho1 := OwnB.keep (w := wr) ho hd1
        have hk1 := K30.below hd1
        refine hK.out _ _ trivial (fun _ => ?_)
        clear hK K
        refine wpAnyH_ready (rs := [0]) (by kernel_rfl) (by simp) ?_
        refine AllReadyH.cons (o := { dst := _, op := _, type := _, pos := _, after := _, guard := _ }) rfl (fun K hK => ?_) AllReadyH.nil
        have fc1 := hn1.cell
        go_simp
        refine hK.out _ _ trivial (fun _ => ?_)
        clear hK K
        refine wpAnyH_ready (rs := [3]) (by kernel_rfl) (by simp) ?_
        refine AllReadyH.cons (o := { dst := _, op := _, type := _, pos := _, after := _, guard := _ }) rfl (fun K hK => ?_) AllReadyH.nil
        refine wp_appB3 x1 _ _ rfl (C + 1) ho1 hy1.bts rfl rfl (by omega) (Nat.le_trans hn.lt hd1.size) ?_
        intro ao2 ac2 x2 ho2 hc2 hk2
        have hn2 := hn1.keepAt hc2 (Nat.lt_succ_self _)
        simp only [Act.put, List.setIfInBounds_toArray, List.set_cons_zero, List.set_cons_succ]
        refine hK.out _ _ trivial (fun _ => ?_)
        clear hK K
        refine wpAnyH_ready (rs := [4]) (by kernel_rfl) (by simp) ?_
        refine AllReadyH.cons (o := { dst := _, op := _, type := _, pos := _, after := _, guard := _ }) rfl (fun K hK => ?_) AllReadyH.nil
        have fr := hn2.froz
        have fc := hn2.cell
        go_simp
        refine hK.out _ _ trivial (fun _ => ?_)
        clear hK K
        refine wpAnyH_done (by kernel_rfl) ?_ _
        go_wp2_with fail
        exact ⟨⟨k + 1, _, by omega, by go_num, hn2.set _, hfin _ _ _ ho2 hn2, (hbel.trans (hd1.mono (Nat.le_of_lt hn.lt))).trans ((hc2.mono (Nat.le_succ _)).trans ((Below.refl C x2).setCell (p := ⟨C, 0, none⟩) (Nat.le_refl C) _)), ((hk30.trans hk1).trans hk2).trans (K30.set hn2 (by decide) _)⟩, by simp [intOf]; omega⟩
    · obtain rfl : k = ns.length := by omega
      rw [List.take_length] at ho
      go_wp2_with fail
      exact bodyPost_end (v := .tuple #[]) (results_none rfl _ _ _) rfl ⟨rfl, _, hn, ho, hbel, hk30⟩
end Go.Proofs.Ytlcnjinabfbglaa
