/- The reference's Put. -/
import Derived.Test.YtlcnjinabfbglaaR15
namespace Go.Proofs.Ytlcnjinabfbglaa
open Go.RowKit
set_option maxRecDepth 100000 in
set_option maxHeartbeats 2000000 in
theorem rnum_any (B : Nat) (v : Value) (l : List UInt8) (n : Nat) (w : World) (hO : OwnB B w v l) (hB : B ≤ w.heap.size) (hn : n < 18446744073709551616) (hs : l.length + 10 ≤ 1000000) :
    Calls Try.prog 58 #[v, u64 n] w fun r w' => ∃ v', r = .returned v' ∧ OwnB B w' v' (l ++ Pk.put n) ∧ Below B w w' ∧ ∀ j, j < w.heap.size → v.ownBlock ≠ some j → w'.heap[j]? = w.heap[j]? := by
  have hl := Pk.put_len n
  obtain ⟨vo, vc, rfl, -, -⟩ := own_form hO
  go_enter Try.func58, Try.ntmps58
  go_wp2_with (first
    | (go_at_call 22; refine (refPut_any n _ hn).mono ?_; rintro e x1 ⟨y1, rfl, hy1, hd1⟩; obtain ⟨yo, yc, rfl, -, -⟩ := own_form hy1)
    | (at_builtin; refine wpList_appB x1 rfl _ _ rfl B (OwnB.keep (w := w) hO hd1) hy1.bts rfl rfl (by omega) (Nat.le_trans hB hd1.size) ?_; intro ao2 ac2 x2 ho2 hg2 hc2))
  go_ret
  exact ⟨_, rfl, ho2, (hd1.mono hB).trans hc2, fun j hj hne => (hg2.block j (Nat.lt_of_lt_of_le hj hd1.size) (fun e => hne e.symm)).trans (hd1.block j hj)⟩
/-- a row of one small byte in a block of its own -/
theorem byteLit (w : World) (n : Nat) (h : n < 128) : Bts (w.alloc (.cells #[.int .u8 (n : Int)] 5)) (.slice (some ⟨w.heap.size, 0, none⟩) 1 1) [UInt8.ofNat n] := by
  have := (own_lit1 w (UInt8.ofNat n)).bts
  unfold by8 at this
  rw [smallByte n h] at this
  exact this
theorem put_small (n : Nat) (h : n < 128) : Pk.put n = [UInt8.ofNat n] := by
  exact Pk.putF_small 9 n h
set_option maxRecDepth 100000 in
set_option maxHeartbeats 4000000 in
theorem refMsgPut_bad (x : MV) (w : World) (h : MvOk w x) (hm : Rp.may x.m = false) : Calls Try.prog 41 #[msgV x] w fun r w' => r = .returned (.tuple #[.slice none 0 0, .int .i64 2]) ∧ Below w.heap.size w w' := by
  obtain ⟨m, ev, pv, iv, xs⟩ := x
  have hE : Ents w ev xs := h.ents
  have hP : Nums w pv m.peers := h.peers
  have hI : Bts w iv m.image := h.image
  obtain ⟨eo, ec, rfl, -, -, -⟩ := hE.form
  obtain ⟨po, pc, rfl, -, -, -⟩ := hP.form
  obtain ⟨io, ic, rfl, -, -, -⟩ := hI.form
  clear hE hP hI
  obtain ⟨kind, frm, too, term, pre, ok, index, logTerm, commit, ents, peers, sidx, sterm, image⟩ := m
  simp only at *
  have hal := Below.al (Below.refl w.heap.size w) (.cells #[.int .i64 kind, u64 frm, u64 too, u64 term, .bool pre, .bool ok, u64 index, u64 logTerm, u64 commit, .slice eo xs.length ec, .slice po peers.length pc, u64 sidx, u64 sterm, .slice io image.length ic] 62)
  have hM := refMay_any _ _ (h.keep hal)
  simp only [hm, msgV] at hM
  clear h hm
  show Calls Try.prog 41 #[.agg #[.int .i64 kind, u64 frm, u64 too, u64 term, .bool pre, .bool ok, u64 index, u64 logTerm, u64 commit, .slice eo xs.length ec, .slice po peers.length pc, u64 sidx, u64 sterm, .slice io image.length ic]] w fun r w' => r = .returned (.tuple #[.slice none 0 0, .int .i64 2]) ∧ Below w.heap.size w w'
  go_enter Try.func41, Try.ntmps41
  go_wp2_with (go_at_call 45; refine hM.mono ?_; rintro r w1 ⟨rfl, hc⟩)
  go_ret2
  exact ⟨rfl, Below.call hal hc⟩
set_option maxRecDepth 100000 in
set_option maxHeartbeats 8000000 in
theorem refMsgPut_ok (x : MV) (w : World) (h : MvOk w x) (hm : Rp.may x.m = true) : Calls Try.prog 41 #[msgV x] w fun r w' => ∃ v, r = .returned (.tuple #[v, .int .i64 0]) ∧ OwnB w.heap.size w' v (Rp.bytes x.m) ∧ Below w.heap.size w w' := by
  obtain ⟨a1, a2, a3, a4, a5, a6⟩ := Rp.may_spec x.m hm
  have hlx := may_len x h.xs
  have hnm := h.n
  have hfl3 := Rp.flags_le x.m
  obtain ⟨kk, hkk⟩ : ∃ kk : Nat, x.m.kind = (kk : Int) := ⟨x.m.kind.toNat, by omega⟩
  have hbytes : Rp.bytes x.m = [] ++ Pk.put kk ++ Pk.put x.m.frm ++ Pk.put x.m.to ++ Pk.put x.m.term ++ [UInt8.ofNat (Rp.flags x.m)] ++ Pk.put x.m.index ++ Pk.put x.m.logTerm ++ Pk.put x.m.commit ++ [UInt8.ofNat x.xs.length] ++ Rp.entsB (x.xs.map EV.ent) ++ [UInt8.ofNat x.m.peers.length] ++ Rp.numsB x.m.peers ++ Pk.put x.m.sidx ++ Pk.put x.m.sterm ++ Pk.put x.m.image.length ++ x.m.image := by
    rw [h.xs, ← put_small _ (show Rp.flags x.m < 128 by omega), ← put_small _ (show x.xs.length < 128 by omega), ← put_small _ (show x.m.peers.length < 128 by omega), ← hlx]
    unfold Rp.bytes Rp.head Rp.h1 Rp.h3 Rp.numsB
    rw [hkk]
    simp only [List.flatMap_cons, List.flatMap_nil, List.append_nil, List.append_assoc, List.nil_append, Int.toNat_natCast]
  have hE6 : ∀ e ∈ x.xs.map EV.ent, Rp.mayE e = true := by rw [h.xs]; exact a6
  rw [hbytes]
  obtain ⟨m, ev, pv, iv, xs⟩ := x
  simp only at *
  have hE : Ents w ev xs := h.ents
  have hP : Nums w pv m.peers := h.peers
  have hI : Bts w iv m.image := h.image
  obtain ⟨eo, ec, rfl, b1, b2, b3⟩ := hE.form
  obtain ⟨po, pc, rfl, -, -, -⟩ := hP.form
  obtain ⟨io, ic, rfl, -, -, -⟩ := hI.form
  unfold maxLen at b2
  have hfl : Rp.flags m = (if m.pre then 1 else 0) + (if m.ok then 2 else 0) := rfl
  clear hbytes
  have hM0 := fun w' (hw : Below w.heap.size w w') => refMay_any _ w' (h.keep hw)
  simp only [hm, msgV] at hM0
  obtain ⟨n1, n2, n3, n4, n5, n6, n7, n8, -, -⟩ := hnm
  unfold Rp.N64 at n1 n2 n3 n4 n5 n6 n7 n8
  clear h hm
  generalize Rp.flags m = fl at *
  obtain ⟨kind, frm, too, term, pre, ok, index, logTerm, commit, ents, peers, sidx, sterm, image⟩ := m
  simp only at *
  subst hkk
  have hlE : (Rp.entsB (xs.map EV.ent)).length ≤ 2050 * xs.length := by have := entsB_len _ hE6; rwa [List.length_map] at this
  have hal := Below.al (Below.refl w.heap.size w) (.cells #[.int .i64 (kk : Int), u64 frm, u64 too, u64 term, .bool pre, .bool ok, u64 index, u64 logTerm, u64 commit, .slice eo xs.length ec, .slice po peers.length pc, u64 sidx, u64 sterm, .slice io image.length ic] 62)
  have hrow : MvAt (w.alloc (.cells #[.int .i64 (kk : Int), u64 frm, u64 too, u64 term, .bool pre, .bool ok, u64 index, u64 logTerm, u64 commit, .slice eo xs.length ec, .slice po peers.length pc, u64 sidx, u64 sterm, .slice io image.length ic] 62)) w.heap.size ⟨⟨(kk : Int), frm, too, term, pre, ok, index, logTerm, commit, ents, peers, sidx, sterm, image⟩, .slice eo xs.length ec, .slice po peers.length pc, .slice io image.length ic, xs⟩ := new_at _ _ _ rfl
  have hM := hM0 _ hal
  clear hM0
  show Calls Try.prog 41 #[.agg #[.int .i64 (kk : Int), u64 frm, u64 too, u64 term, .bool pre, .bool ok, u64 index, u64 logTerm, u64 commit, .slice eo xs.length ec, .slice po peers.length pc, u64 sidx, u64 sterm, .slice io image.length ic]] w fun r w' => ∃ v, r = .returned (.tuple #[v, .int .i64 0]) ∧ OwnB w.heap.size w' v (_ ++ _ ++ _) ∧ Below w.heap.size w w'
  obtain ⟨N, hN⟩ : ∃ N, w.heap.size = N := ⟨_, rfl⟩
  go_enter Try.func41, Try.ntmps41
  go_wp2_with fail
  refine hM.mono ?_
  rintro r w1 ⟨rfl, hc1⟩
  have hb1 := Below.call hal hc1
  replace hrow := hrow.keep hc1
  clear hM hal hc1
  rw [hN] at hrow hb1
  have hNl : N < w1.heap.size := hrow.lt
  obtain ⟨C, hCe⟩ : ∃ C, C = w1.heap.size := ⟨_, rfl⟩
  have hC0 : C ≤ w1.heap.size := Nat.le_of_eq hCe
  rw [← hCe] at hNl
  have c0 : ∀ w', Below C w1 w' → w'.cell? ⟨N, 0, none⟩ = some (.int .i64 (kk : Int)) := fun w' h => (hrow.keepAt h hNl).at 0 _ rfl
  have c1 : ∀ w', Below C w1 w' → w'.cell? ⟨N, 1, none⟩ = some (u64 frm) := fun w' h => (hrow.keepAt h hNl).at 1 _ rfl
  have c2 : ∀ w', Below C w1 w' → w'.cell? ⟨N, 2, none⟩ = some (u64 too) := fun w' h => (hrow.keepAt h hNl).at 2 _ rfl
  have c3 : ∀ w', Below C w1 w' → w'.cell? ⟨N, 3, none⟩ = some (u64 term) := fun w' h => (hrow.keepAt h hNl).at 3 _ rfl
  have c4 : ∀ w', Below C w1 w' → w'.cell? ⟨N, 4, none⟩ = some (.bool pre) := fun w' h => (hrow.keepAt h hNl).at 4 _ rfl
  have c5 : ∀ w', Below C w1 w' → w'.cell? ⟨N, 5, none⟩ = some (.bool ok) := fun w' h => (hrow.keepAt h hNl).at 5 _ rfl
  have c6 : ∀ w', Below C w1 w' → w'.cell? ⟨N, 6, none⟩ = some (u64 index) := fun w' h => (hrow.keepAt h hNl).at 6 _ rfl
  have c7 : ∀ w', Below C w1 w' → w'.cell? ⟨N, 7, none⟩ = some (u64 logTerm) := fun w' h => (hrow.keepAt h hNl).at 7 _ rfl
  have c8 : ∀ w', Below C w1 w' → w'.cell? ⟨N, 8, none⟩ = some (u64 commit) := fun w' h => (hrow.keepAt h hNl).at 8 _ rfl
  have c9 : ∀ w', Below C w1 w' → w'.cell? ⟨N, 9, none⟩ = some (.slice eo xs.length ec) := fun w' h => (hrow.keepAt h hNl).at 9 _ rfl
  have c10 : ∀ w', Below C w1 w' → w'.cell? ⟨N, 10, none⟩ = some (.slice po peers.length pc) := fun w' h => (hrow.keepAt h hNl).at 10 _ rfl
  have c11 : ∀ w', Below C w1 w' → w'.cell? ⟨N, 11, none⟩ = some (u64 sidx) := fun w' h => (hrow.keepAt h hNl).at 11 _ rfl
  have c12 : ∀ w', Below C w1 w' → w'.cell? ⟨N, 12, none⟩ = some (u64 sterm) := fun w' h => (hrow.keepAt h hNl).at 12 _ rfl
  have c13 : ∀ w', Below C w1 w' → w'.cell? ⟨N, 13, none⟩ = some (.slice io image.length ic) := fun w' h => (hrow.keepAt h hNl).at 13 _ rfl
  have hE' : ∀ w', Below C w1 w' → Ents w' (.slice eo xs.length ec) xs := fun w' h => hE.keep (by rw [hN]; exact hb1.trans (h.mono (Nat.le_of_lt hNl)))
  have hP' : ∀ w', Below C w1 w' → Nums w' (.slice po peers.length pc) peers := fun w' h => hP.keep (by rw [hN]; exact hb1.trans (h.mono (Nat.le_of_lt hNl)))
  have hI' : ∀ w', Below C w1 w' → Bts w' (.slice io image.length ic) image := fun w' h => hI.keep (by rw [hN]; exact hb1.trans (h.mono (Nat.le_of_lt hNl)))
  have hCs : ∀ w', Below C w1 w' → C ≤ w'.heap.size := fun w' h => Nat.le_trans hC0 h.size
  clear hE hP hI hCe
  have p1 := Pk.put_len kk
  have p2 := Pk.put_len frm
  have p3 := Pk.put_len too
  have p4 := Pk.put_len term
  have p5 := Pk.put_len index
  have p6 := Pk.put_len logTerm
  have p7 := Pk.put_len commit
  have p8 := Pk.put_len sidx
  have p9 := Pk.put_len sterm
  have p10 := Pk.put_len image.length
  have hkw : IntKind.u64.wrap (kk : Int) = (kk : Int) := IntWalk.u64_in _ (by omega)
  have hiw : IntKind.u64.wrap (image.length : Int) = (image.length : Int) := IntWalk.u64_in _ (by omega)
  have hxw : IntKind.u8.wrap (xs.length : Int) = (xs.length : Int) := IntWalk.u8_in _ (by omega)
  have hpw : IntKind.u8.wrap (peers.length : Int) = (peers.length : Int) := IntWalk.u8_in _ (by omega)
  have HFL := Lib.hid hfl
  clear hfl hrow
  go_upto_region 3 with fail
  refine wp_region_held_drew (S := fun w' => Below C w1 w') (by kernel_rfl) (Below.refl C w1).drew (fun h0 => ?_)
  refine wpAnyH_take (i := 0) (oi := { dst := _, op := _, type := _, pos := _, after := _, guard := _ }) (v := ?va0) rfl (by kernel_rfl) (by kernel_rfl) (by kernel_rfl) (fun _ _ _ h => h) (Or.inl ⟨by rfl, ?ya0⟩) (by assumption) ?ra0; (case ya0 => intro w hSw; have g0 := c0 w hSw; have g1 := c1 w hSw; have g2 := c2 w hSw; have g3 := c3 w hSw; go_simp <;> with_reducible rfl); simp only [Act.put, List.setIfInBounds_toArray, List.set_cons_zero, List.set_cons_succ]
  refine wpAnyH_take (i := 1) (oi := { dst := _, op := _, type := _, pos := _, after := _, guard := _ }) (v := ?va1) rfl (by kernel_rfl) (by kernel_rfl) (by kernel_rfl) (fun _ _ _ h => h) (Or.inl ⟨by rfl, ?ya1⟩) (by assumption) ?ra1; (case ya1 => intro w hSw; have g0 := c0 w hSw; have g1 := c1 w hSw; have g2 := c2 w hSw; have g3 := c3 w hSw; go_simp <;> with_reducible rfl); simp only [Act.put, List.setIfInBounds_toArray, List.set_cons_zero, List.set_cons_succ]
  refine wpAnyH_take (i := 2) (oi := { dst := _, op := _, type := _, pos := _, after := _, guard := _ }) (v := ?va2) rfl (by kernel_rfl) (by kernel_rfl) (by kernel_rfl) (fun _ _ _ h => h) (Or.inl ⟨by rfl, ?ya2⟩) (by assumption) ?ra2; (case ya2 => intro w hSw; have g0 := c0 w hSw; have g1 := c1 w hSw; have g2 := c2 w hSw; have g3 := c3 w hSw; go_simp <;> with_reducible rfl); simp only [Act.put, List.setIfInBounds_toArray, List.set_cons_zero, List.set_cons_succ]
  refine wpAnyH_take (i := 4) (oi := { dst := _, op := _, type := _, pos := _, after := _, guard := _ }) (v := ?va4) rfl (by kernel_rfl) (by kernel_rfl) (by kernel_rfl) (fun _ _ _ h => h) (Or.inl ⟨by rfl, ?ya4⟩) (by assumption) ?ra4; (case ya4 => intro w hSw; have g0 := c0 w hSw; have g1 := c1 w hSw; have g2 := c2 w hSw; have g3 := c3 w hSw; go_simp <;> with_reducible rfl); simp only [Act.put, List.setIfInBounds_toArray, List.set_cons_zero, List.set_cons_succ]
  refine wpAnyH_take (i := 5) (oi := { dst := _, op := _, type := _, pos := _, after := _, guard := _ }) (v := ?va5) rfl (by kernel_rfl) (by kernel_rfl) (by kernel_rfl) (fun _ _ _ h => h) (Or.inl ⟨by rfl, ?ya5⟩) (by assumption) ?ra5; (case ya5 => intro w hSw; have g0 := c0 w hSw; have g1 := c1 w hSw; have g2 := c2 w hSw; have g3 := c3 w hSw; go_simp <;> with_reducible rfl); simp only [Act.put, List.setIfInBounds_toArray, List.set_cons_zero, List.set_cons_succ]
  refine wpAnyH_take (i := 7) (oi := { dst := _, op := _, type := _, pos := _, after := _, guard := _ }) (v := ?va7) rfl (by kernel_rfl) (by kernel_rfl) (by kernel_rfl) (fun _ _ _ h => h) (Or.inl ⟨by rfl, ?ya7⟩) (by assumption) ?ra7; (case ya7 => intro w hSw; have g0 := c0 w hSw; have g1 := c1 w hSw; have g2 := c2 w hSw; have g3 := c3 w hSw; go_simp <;> with_reducible rfl); simp only [Act.put, List.setIfInBounds_toArray, List.set_cons_zero, List.set_cons_succ]
  refine wpAnyH_take (i := 8) (oi := { dst := _, op := _, type := _, pos := _, after := _, guard := _ }) (v := ?va8) rfl (by kernel_rfl) (by kernel_rfl) (by kernel_rfl) (fun _ _ _ h => h) (Or.inl ⟨by rfl, ?ya8⟩) (by assumption) ?ra8; (case ya8 => intro w hSw; have g0 := c0 w hSw; have g1 := c1 w hSw; have g2 := c2 w hSw; have g3 := c3 w hSw; go_simp <;> with_reducible rfl); simp only [Act.put, List.setIfInBounds_toArray, List.set_cons_zero, List.set_cons_succ]
  refine wpAnyH_take (i := 10) (oi := { dst := _, op := _, type := _, pos := _, after := _, guard := _ }) (v := ?va10) rfl (by kernel_rfl) (by kernel_rfl) (by kernel_rfl) (fun _ _ _ h => h) (Or.inl ⟨by rfl, ?ya10⟩) (by assumption) ?ra10; (case ya10 => intro w hSw; have g0 := c0 w hSw; have g1 := c1 w hSw; have g2 := c2 w hSw; have g3 := c3 w hSw; go_simp <;> with_reducible rfl); simp only [Act.put, List.setIfInBounds_toArray, List.set_cons_zero, List.set_cons_succ]
  refine wpAnyH_take (i := 11) (oi := { dst := _, op := _, type := _, pos := _, after := _, guard := _ }) (v := ?va11) rfl (by kernel_rfl) (by kernel_rfl) (by kernel_rfl) (fun _ _ _ h => h) (Or.inl ⟨by rfl, ?ya11⟩) (by assumption) ?ra11; (case ya11 => intro w hSw; have g0 := c0 w hSw; have g1 := c1 w hSw; have g2 := c2 w hSw; have g3 := c3 w hSw; go_simp <;> with_reducible rfl); simp only [Act.put, List.setIfInBounds_toArray, List.set_cons_zero, List.set_cons_succ]
  refine wpAnyH_ready (rs := [3]) (by kernel_rfl) (by simp) ?_
  refine AllReadyH.cons (o := { dst := _, op := _, type := _, pos := _, after := _, guard := _ }) rfl (fun K hK => ?_) AllReadyH.nil
  go_simp
  refine (rnum_any C _ ([] : List UInt8) kk _ (World.ownsRow_nil _ _ _ _) (hCs _ h0) (by omega) (by first | omega | (simp only [List.length_nil] at *; omega))).mono ?_
  rintro e xA1 ⟨y, rfl, oA1, cA1, -⟩
  obtain ⟨lA1, hlA1⟩ : ∃ lA1, lA1 = ([] : List UInt8) ++ Pk.put kk := ⟨_, rfl⟩
  have hnA1 : lA1.length ≤ 0 + 10 := by have := Pk.put_len (kk); rw [hlA1, List.length_append]; first | omega | (rw [List.length_nil]; omega)
  rw [← hlA1] at oA1
  have HA1 := Lib.hid hlA1
  clear hlA1
  obtain ⟨ya, yb, rfl, -, -⟩ := own_form oA1
  have dA1 := h0.trans cA1
  refine hK.out _ _ dA1 (fun _ => ?_)
  clear hK K
  refine wpAnyH_ready (rs := [6]) (by kernel_rfl) (by simp) ?_
  refine AllReadyH.cons (o := { dst := _, op := _, type := _, pos := _, after := _, guard := _ }) rfl (fun K hK => ?_) AllReadyH.nil
  go_simp
  refine (rnum_any C _ lA1 frm _ oA1 (hCs _ dA1) n1 (by first | omega | (simp only [List.length_nil] at *; omega))).mono ?_
  rintro e xA2 ⟨y, rfl, oA2, cA2, -⟩
  obtain ⟨lA2, hlA2⟩ : ∃ lA2, lA2 = lA1 ++ Pk.put frm := ⟨_, rfl⟩
  have hnA2 : lA2.length ≤ lA1.length + 10 := by have := Pk.put_len (frm); rw [hlA2, List.length_append]; first | omega | (rw [List.length_nil]; omega)
  rw [← hlA2] at oA2
  have HA2 := Lib.hid hlA2
  clear hlA2
  obtain ⟨ya, yb, rfl, -, -⟩ := own_form oA2
  have dA2 := dA1.trans cA2
  refine hK.out _ _ dA2 (fun _ => ?_)
  clear hK K
  refine wpAnyH_ready (rs := [9]) (by kernel_rfl) (by simp) ?_
  refine AllReadyH.cons (o := { dst := _, op := _, type := _, pos := _, after := _, guard := _ }) rfl (fun K hK => ?_) AllReadyH.nil
  go_simp
  refine (rnum_any C _ lA2 too _ oA2 (hCs _ dA2) n2 (by first | omega | (simp only [List.length_nil] at *; omega))).mono ?_
  rintro e xA3 ⟨y, rfl, oA3, cA3, -⟩
  obtain ⟨lA3, hlA3⟩ : ∃ lA3, lA3 = lA2 ++ Pk.put too := ⟨_, rfl⟩
  have hnA3 : lA3.length ≤ lA2.length + 10 := by have := Pk.put_len (too); rw [hlA3, List.length_append]; first | omega | (rw [List.length_nil]; omega)
  rw [← hlA3] at oA3
  have HA3 := Lib.hid hlA3
  clear hlA3
  obtain ⟨ya, yb, rfl, -, -⟩ := own_form oA3
  have dA3 := dA2.trans cA3
  refine hK.out _ _ dA3 (fun _ => ?_)
  clear hK K
  refine wpAnyH_ready (rs := [12]) (by kernel_rfl) (by simp) ?_
  refine AllReadyH.cons (o := { dst := _, op := _, type := _, pos := _, after := _, guard := _ }) rfl (fun K hK => ?_) AllReadyH.nil
  go_simp
  refine (rnum_any C _ lA3 term _ oA3 (hCs _ dA3) n3 (by first | omega | (simp only [List.length_nil] at *; omega))).mono ?_
  rintro e xA4 ⟨y, rfl, oA4, cA4, -⟩
  obtain ⟨lA4, hlA4⟩ : ∃ lA4, lA4 = lA3 ++ Pk.put term := ⟨_, rfl⟩
  have hnA4 : lA4.length ≤ lA3.length + 10 := by have := Pk.put_len (term); rw [hlA4, List.length_append]; first | omega | (rw [List.length_nil]; omega)
  rw [← hlA4] at oA4
  have HA4 := Lib.hid hlA4
  clear hlA4
  obtain ⟨ya, yb, rfl, -, -⟩ := own_form oA4
  have dA4 := dA3.trans cA4
  refine hK.out _ _ dA4 (fun _ => ?_)
  clear hK K
  refine wpAnyH_take (i := 13) (oi := { dst := _, op := _, type := _, pos := _, after := _, guard := _ }) (v := ?va13) rfl (by kernel_rfl) (by kernel_rfl) (by kernel_rfl) (fun _ _ _ h => h) (Or.inl ⟨by rfl, ?ya13⟩) (by assumption) ?ra13; (case ya13 => intro w hSw; have g0 := c0 w hSw; have g1 := c1 w hSw; have g2 := c2 w hSw; have g3 := c3 w hSw; go_simp <;> with_reducible rfl); simp only [Act.put, List.setIfInBounds_toArray, List.set_cons_zero, List.set_cons_succ]
  refine wpAnyH_done (by kernel_rfl) ?_ _
  clear oA1 oA2 oA3 cA1 cA2 cA3 cA4 dA1 dA2 dA3 h0
  have e4 := c4 _ dA4
  have e5 := c5 _ dA4
  go_upto_if 27 with fail
  go_cut [5] (fun s5 wx => s5 = .int .u8 ((if pre then 1 else 0 : Nat) : Int) ∧ wx = xA4)
  case first => as_aux_lemma =>
    cases pre
    · go_wp2_with fail
      go_meet
      exact ⟨rfl, rfl⟩
    · go_wp2_with fail
      go_meet
      exact ⟨rfl, rfl⟩
  case rest =>
  obtain ⟨rfl, rfl⟩ := hcut
  go_upto_if 31 with fail
  go_cut [5] (fun s5 wx => s5 = .int .u8 (fl : Int) ∧ wx = wc)
  case first => as_aux_lemma =>
    cases pre <;> cases ok
    · go_wp2_with fail
      go_meet
      exact ⟨by rw [HFL.out]; rfl, rfl⟩
    · go_wp2_with fail
      go_meet
      exact ⟨by rw [HFL.out]; rfl, rfl⟩
    · go_wp2_with fail
      go_meet
      exact ⟨by rw [HFL.out]; rfl, rfl⟩
    · go_wp2_with fail
      go_meet
      exact ⟨by rw [HFL.out]; rfl, rfl⟩
  case rest =>
  obtain ⟨rfl, rfl⟩ := hcut
  clear e4 e5
  go_upto_region 9 with fail
  refine wp_region_held_drew (S := fun w' => Below C w1 w') (by kernel_rfl) dA4.drew (fun h0 => ?_)
  refine wpAnyH_take (i := 0) (oi := { dst := _, op := _, type := _, pos := _, after := _, guard := _ }) (v := ?vb0) rfl (by kernel_rfl) (by kernel_rfl) (by kernel_rfl) (fun _ _ _ h => h) (Or.inl ⟨by rfl, ?yb0⟩) (by assumption) ?rb0; (case yb0 => intro w hSw; have g6 := c6 w hSw; have g7 := c7 w hSw; have g8 := c8 w hSw; go_simp <;> with_reducible rfl); simp only [Act.put, List.setIfInBounds_toArray, List.set_cons_zero, List.set_cons_succ]
  refine wpAnyH_take (i := 1) (oi := { dst := _, op := _, type := _, pos := _, after := _, guard := _ }) (v := ?vb1) rfl (by kernel_rfl) (by kernel_rfl) (by kernel_rfl) (fun _ _ _ h => h) (Or.inl ⟨by rfl, ?yb1⟩) (by assumption) ?rb1; (case yb1 => intro w hSw; have g6 := c6 w hSw; have g7 := c7 w hSw; have g8 := c8 w hSw; go_simp <;> with_reducible rfl); simp only [Act.put, List.setIfInBounds_toArray, List.set_cons_zero, List.set_cons_succ]
  refine wpAnyH_take (i := 4) (oi := { dst := _, op := _, type := _, pos := _, after := _, guard := _ }) (v := ?vb4) rfl (by kernel_rfl) (by kernel_rfl) (by kernel_rfl) (fun _ _ _ h => h) (Or.inl ⟨by rfl, ?yb4⟩) (by assumption) ?rb4; (case yb4 => intro w hSw; have g6 := c6 w hSw; have g7 := c7 w hSw; have g8 := c8 w hSw; go_simp <;> with_reducible rfl); simp only [Act.put, List.setIfInBounds_toArray, List.set_cons_zero, List.set_cons_succ]
  refine wpAnyH_take (i := 5) (oi := { dst := _, op := _, type := _, pos := _, after := _, guard := _ }) (v := ?vb5) rfl (by kernel_rfl) (by kernel_rfl) (by kernel_rfl) (fun _ _ _ h => h) (Or.inl ⟨by rfl, ?yb5⟩) (by assumption) ?rb5; (case yb5 => intro w hSw; have g6 := c6 w hSw; have g7 := c7 w hSw; have g8 := c8 w hSw; go_simp <;> with_reducible rfl); simp only [Act.put, List.setIfInBounds_toArray, List.set_cons_zero, List.set_cons_succ]
  refine wpAnyH_take (i := 7) (oi := { dst := _, op := _, type := _, pos := _, after := _, guard := _ }) (v := ?vb7) rfl (by kernel_rfl) (by kernel_rfl) (by kernel_rfl) (fun _ _ _ h => h) (Or.inl ⟨by rfl, ?yb7⟩) (by assumption) ?rb7; (case yb7 => intro w hSw; have g6 := c6 w hSw; have g7 := c7 w hSw; have g8 := c8 w hSw; go_simp <;> with_reducible rfl); simp only [Act.put, List.setIfInBounds_toArray, List.set_cons_zero, List.set_cons_succ]
  refine wpAnyH_take (i := 8) (oi := { dst := _, op := _, type := _, pos := _, after := _, guard := _ }) (v := ?vb8) rfl (by kernel_rfl) (by kernel_rfl) (by kernel_rfl) (fun _ _ _ h => h) (Or.inl ⟨by rfl, ?yb8⟩) (by assumption) ?rb8; (case yb8 => intro w hSw; have g6 := c6 w hSw; have g7 := c7 w hSw; have g8 := c8 w hSw; go_simp <;> with_reducible rfl); simp only [Act.put, List.setIfInBounds_toArray, List.set_cons_zero, List.set_cons_succ]
  refine wpAnyH_take (i := 10) (oi := { dst := _, op := _, type := _, pos := _, after := _, guard := _ }) (v := ?vb10) rfl (by kernel_rfl) (by kernel_rfl) (by kernel_rfl) (fun _ _ _ h => h) (Or.inl ⟨by rfl, ?yb10⟩) (by assumption) ?rb10; (case yb10 => intro w hSw; have g6 := c6 w hSw; have g7 := c7 w hSw; have g8 := c8 w hSw; go_simp <;> with_reducible rfl); simp only [Act.put, List.setIfInBounds_toArray, List.set_cons_zero, List.set_cons_succ]
  refine wpAnyH_take (i := 11) (oi := { dst := _, op := _, type := _, pos := _, after := _, guard := _ }) (v := ?vb11) rfl (by kernel_rfl) (by kernel_rfl) (by kernel_rfl) (fun _ _ _ h => h) (Or.inl ⟨by rfl, ?yb11⟩) (by assumption) ?rb11; (case yb11 => intro w hSw; have g6 := c6 w hSw; have g7 := c7 w hSw; have g8 := c8 w hSw; go_simp <;> with_reducible rfl); simp only [Act.put, List.setIfInBounds_toArray, List.set_cons_zero, List.set_cons_succ]
  refine wpAnyH_ready (rs := [2]) (by kernel_rfl) (by simp) ?_
  refine AllReadyH.cons (o := { dst := _, op := _, type := _, pos := _, after := _, guard := _ }) rfl (fun K hK => ?_) AllReadyH.nil
  go_simp
  refine hK.out _ _ ((dA4.drew).alloc (hCs _ dA4.drew) _) (fun d0 => ?_)
  clear hK K
  refine wpAnyH_ready (rs := [3]) (by kernel_rfl) (by simp) ?_
  refine AllReadyH.cons (o := { dst := _, op := _, type := _, pos := _, after := _, guard := _ }) rfl (fun K hK => ?_) AllReadyH.nil
  rw [if_pos (show Region.wanted _ _ = true from rfl)]
  refine wp_appB3 _ _ _ rfl C (OwnB.keep (w := wc) oA4 (Below.al (Below.refl _ _).drew _)) (byteLit wc.drew fl (by omega)) rfl rfl (by simp only [List.length_cons, List.length_nil]; omega) (hCs _ d0) ?_
  intro ao0 ac0 xB0 oB0 cB0 _
  have dB0 := d0.trans cB0
  obtain ⟨lB0, hlB0⟩ : ∃ lB0, lB0 = lA4 ++ [UInt8.ofNat fl] := ⟨_, rfl⟩
  have hnB0 : lA4.length + [UInt8.ofNat fl].length = lB0.length := by rw [hlB0, List.length_append]
  rw [← hlB0, hnB0] at oB0
  rw [hnB0]
  have hnB0' : lB0.length ≤ lA4.length + 1 := Nat.le_of_eq hnB0.symm
  have HB0 := Lib.hid hlB0
  clear hlB0 hnB0
  simp only [Act.put, List.setIfInBounds_toArray, List.set_cons_zero, List.set_cons_succ]
  refine hK.out _ _ dB0 (fun _ => ?_)
  clear hK K
  refine wpAnyH_ready (rs := [6]) (by kernel_rfl) (by simp) ?_
  refine AllReadyH.cons (o := { dst := _, op := _, type := _, pos := _, after := _, guard := _ }) rfl (fun K hK => ?_) AllReadyH.nil
  go_simp
  refine (rnum_any C _ lB0 index _ oB0 (hCs _ dB0) n4 (by first | omega | (simp only [List.length_nil] at *; omega))).mono ?_
  rintro e xB1 ⟨y, rfl, oB1, cB1, -⟩
  obtain ⟨lB1, hlB1⟩ : ∃ lB1, lB1 = lB0 ++ Pk.put index := ⟨_, rfl⟩
  have hnB1 : lB1.length ≤ lB0.length + 10 := by have := Pk.put_len (index); rw [hlB1, List.length_append]; first | omega | (rw [List.length_nil]; omega)
  rw [← hlB1] at oB1
  have HB1 := Lib.hid hlB1
  clear hlB1
  obtain ⟨ya, yb, rfl, -, -⟩ := own_form oB1
  have dB1 := dB0.trans cB1
  refine hK.out _ _ dB1 (fun _ => ?_)
  clear hK K
  refine wpAnyH_ready (rs := [9]) (by kernel_rfl) (by simp) ?_
  refine AllReadyH.cons (o := { dst := _, op := _, type := _, pos := _, after := _, guard := _ }) rfl (fun K hK => ?_) AllReadyH.nil
  go_simp
  refine (rnum_any C _ lB1 logTerm _ oB1 (hCs _ dB1) n5 (by first | omega | (simp only [List.length_nil] at *; omega))).mono ?_
  rintro e xB2 ⟨y, rfl, oB2, cB2, -⟩
  obtain ⟨lB2, hlB2⟩ : ∃ lB2, lB2 = lB1 ++ Pk.put logTerm := ⟨_, rfl⟩
  have hnB2 : lB2.length ≤ lB1.length + 10 := by have := Pk.put_len (logTerm); rw [hlB2, List.length_append]; first | omega | (rw [List.length_nil]; omega)
  rw [← hlB2] at oB2
  have HB2 := Lib.hid hlB2
  clear hlB2
  obtain ⟨ya, yb, rfl, -, -⟩ := own_form oB2
  have dB2 := dB1.trans cB2
  refine hK.out _ _ dB2 (fun _ => ?_)
  clear hK K
  refine wpAnyH_ready (rs := [12]) (by kernel_rfl) (by simp) ?_
  refine AllReadyH.cons (o := { dst := _, op := _, type := _, pos := _, after := _, guard := _ }) rfl (fun K hK => ?_) AllReadyH.nil
  go_simp
  refine (rnum_any C _ lB2 commit _ oB2 (hCs _ dB2) n6 (by first | omega | (simp only [List.length_nil] at *; omega))).mono ?_
  rintro e xB3 ⟨y, rfl, oB3, cB3, -⟩
  obtain ⟨lB3, hlB3⟩ : ∃ lB3, lB3 = lB2 ++ Pk.put commit := ⟨_, rfl⟩
  have hnB3 : lB3.length ≤ lB2.length + 10 := by have := Pk.put_len (commit); rw [hlB3, List.length_append]; first | omega | (rw [List.length_nil]; omega)
  rw [← hlB3] at oB3
  have HB3 := Lib.hid hlB3
  clear hlB3
  obtain ⟨ya, yb, rfl, -, -⟩ := own_form oB3
  have dB3 := dB2.trans cB3
  refine hK.out _ _ dB3 (fun _ => ?_)
  clear hK K
  refine wpAnyH_take (i := 13) (oi := { dst := _, op := _, type := _, pos := _, after := _, guard := _ }) (v := ?vb13) rfl (by kernel_rfl) (by kernel_rfl) (by kernel_rfl) (fun _ _ _ h => h) (Or.inl ⟨by rfl, ?yb13⟩) (by assumption) ?rb13; (case yb13 => intro w hSw; have g6 := c6 w hSw; have g7 := c7 w hSw; have g8 := c8 w hSw; go_simp <;> with_reducible rfl); simp only [Act.put, List.setIfInBounds_toArray, List.set_cons_zero, List.set_cons_succ]
  refine wpAnyH_done (by kernel_rfl) ?_ _
  clear oA4 oB0 oB1 oB2 cB0 cB1 cB2 cB3 dA4 dB0 dB1 dB2 d0 c0 c1 c2 c3 c4 c5 c6 c7 c8 p1 p2 p3 p4 p5 p6 p7 hkw n1 n2 n3 n4 n5 n6
  have g9 := c9 _ dB3
  go_wp2_with (at_builtin; refine wpList_appB (xB3.alloc (.cells #[.int .u8 (xs.length : Int)] 5)) rfl _ _ rfl C (oB3.keep (Below.al (Below.refl _ _) _)) (byteLit xB3 xs.length (by omega)) rfl rfl (by simp only [List.length_cons, List.length_nil] at *; omega) (Nat.le_trans (hCs _ dB3) (by simp)) ?_; intro ao4 ac4 w4 ho4 hg4 hb4; have d4 := (dB3.alloc (hCs _ dB3) _).trans hb4; have g9' := c9 _ d4)
  obtain ⟨lC, hlC⟩ : ∃ lC, lC = lB3 ++ [UInt8.ofNat xs.length] := ⟨_, rfl⟩
  have hnC : lC.length ≤ 100 := by rw [hlC, List.length_append]; simp only [List.length_cons, List.length_nil] at *; omega
  have hnC' : lB3.length + [UInt8.ofNat xs.length].length = lC.length := by rw [hlC, List.length_append]
  rw [← hlC, hnC'] at ho4
  rw [show lB3.length + 1 = lC.length from hnC']
  have HC := Lib.hid hlC
  clear hlC hnC' g9 g9' hb4 hg4 oB3 dB3 hnA1 hnA2 hnA3 hnA4 hnB0' hnB1 hnB2 hnB3
  go_loopw [4, 6] (fun q i wr => ∃ k : Nat, k ≤ xs.length ∧ i = .int .i64 k ∧ OwnB C wr q (lC ++ Rp.entsB ((xs.take k).map EV.ent)) ∧ Below C w1 wr) (fun _ i _ => xs.length - (intOf i).toNat)
  case atStart => exact ⟨0, Nat.zero_le _, rfl, by simpa [Rp.entsB] using ho4, d4⟩
  case round =>
    clear ho4 d4
    obtain ⟨k, hk, rfl, ho, hbel⟩ := hrel
    have g9 := c9 _ hbel
    by_cases hlt : k < xs.length
    · as_aux_lemma =>
      have hlt' : (k : Int) < (xs.length : Int) := by omega
      have hx : xs[k]? = some xs[k] := List.getElem?_eq_getElem hlt
      have hmx : Rp.mayE xs[k].ent = true := hE6 _ (List.mem_map_of_mem (List.getElem_mem hlt))
      obtain ⟨b, off, rfl, -, d0, d1, d2, hEv⟩ := Ents.at (hE' _ hbel) hx
      have htk := entsB_take xs k _ hx
      have hlk : (Rp.entsB ((xs.take k).map EV.ent)).length ≤ 2050 * 16 := by
        have := entsB_len ((xs.take k).map EV.ent) (fun e he => by
          obtain ⟨y, hy, rfl⟩ := List.mem_map.1 he
          exact hE6 _ (List.mem_map_of_mem (List.mem_of_mem_take hy)))
        rw [List.length_map, List.length_take] at this
        omega
      generalize xs[k] = x at *
      obtain ⟨vo, vc, hv, -⟩ := Bts.form hEv.1
      rw [hv] at d2
      have hR := refRecord_ok x _ hEv hmx
      unfold entV at hR
      rw [hv] at hR
      have hrl := Rp.record_len _ hmx
      have hpt : Pk.putText (Rp.record x.ent) = Pk.put (Rp.record x.ent).length ++ Rp.record x.ent := rfl
      rw [hpt] at htk
      generalize Rp.record x.ent = rc at *
      have hrw : IntKind.u64.wrap (rc.length : Int) = (rc.length : Int) := IntWalk.u64_in _ (by omega)
      have HT := Lib.hid htk
      obtain ⟨l1, hl1⟩ : ∃ l1, l1 = lC ++ Rp.entsB ((xs.take k).map EV.ent) := ⟨_, rfl⟩
      have hl1n : l1.length ≤ 40000 := by rw [hl1, List.length_append]; omega
      rw [← hl1] at ho
      have HL := Lib.hid hl1
      obtain ⟨v1o, v1c, rfl, -, -⟩ := own_form ho
      clear hx hmx hEv htk hlk hl1 hE6 hpt hlE
      go_wp2_with (first
        | (go_at_call 59; refine hR.mono ?_; rintro e x2 ⟨v2, rfl, ho2, hc2⟩; obtain ⟨vo2, vc2, rfl, -, -⟩ := own_form ho2; have hb12 := hbel.trans (hc2.mono (hCs _ hbel)))
        | (go_at_call 58; refine (rnum_any C _ l1 rc.length x2 (ho.keep hc2) (hCs _ hb12) (by omega) (by omega)).mono ?_; rintro e x3 ⟨v3, rfl, ho3, hc3, hk3⟩; have hb13 := hb12.trans hc3; have hBr3 : Bts x3 (.slice vo2 rc.length vc2) rc := OwnB.bts (N := 0) (OwnB.keepAt (_M := 0) (ho2.mono (Nat.zero_le _)) (fun j hj => hk3 j (ho2.lt j hj).2 (fun hh => by have h1 := (ho.lt j hh).2; have h2 := (ho2.lt j hj).1; omega))); obtain ⟨l3, hl3⟩ : ∃ l3, l3 = l1 ++ Pk.put rc.length := ⟨_, rfl⟩; have hl3n : l3.length ≤ l1.length + 10 := (by have := Pk.put_len rc.length; rw [hl3, List.length_append]; omega); rw [← hl3] at ho3; have HL3 := Lib.hid hl3; clear hl3; obtain ⟨vo3, vc3, rfl, -, -⟩ := own_form ho3)
        | (at_builtin; refine wpList_appB x3 rfl _ _ rfl C ho3 hBr3 rfl rfl (by omega) (hCs _ hb13) ?_; intro ao4 ac4 x4 ho4 hg4 hb4))
      refine ⟨⟨k + 1, by omega, by go_num, ?_, hb13.trans hb4⟩, by simp [intOf]; omega⟩
      rw [HT.out, ← List.append_assoc, ← HL.out, ← List.append_assoc, ← HL3.out]
      exact ho4
    · obtain rfl : k = xs.length := by omega
      rw [List.take_length] at ho
      clear hE6 hE'
      obtain ⟨wq, rfl⟩ : ∃ wq, wq = wr := ⟨_, rfl⟩
      have hlE2 : (lC ++ Rp.entsB (xs.map EV.ent)).length ≤ 40000 := by rw [List.length_append]; omega
      obtain ⟨lE, hlE3⟩ : ∃ lE, lE = lC ++ Rp.entsB (xs.map EV.ent) := ⟨_, rfl⟩
      rw [← hlE3] at ho hlE2
      have HE := Lib.hid hlE3
      clear hlE3 hlE
      have g10 := c10 _ hbel
      obtain ⟨qo, qc, rfl, -, -⟩ := own_form ho
      go_wp2_with (at_builtin; refine wpList_appB (wq.alloc (.cells #[.int .u8 (peers.length : Int)] 5)) rfl _ _ rfl C (ho.keep (Below.al (Below.refl _ _) _)) (byteLit wq peers.length (by omega)) rfl rfl (by simp only [List.length_cons, List.length_nil] at *; omega) (Nat.le_trans (hCs _ hbel) (by simp)) ?_; intro ao4 ac4 w4 ho4 hg4 hb4; have d4 := (hbel.alloc (hCs _ hbel) _).trans hb4)
      obtain ⟨lG, hlG⟩ : ∃ lG, lG = lE ++ [UInt8.ofNat peers.length] := ⟨_, rfl⟩
      have hnG : lG.length ≤ 40001 := by rw [hlG, List.length_append]; simp only [List.length_cons, List.length_nil] at *; omega
      have hnG' : lE.length + [UInt8.ofNat peers.length].length = lG.length := by rw [hlG, List.length_append]
      rw [← hlG, hnG'] at ho4
      rw [show lE.length + 1 = lG.length from hnG']
      have HG := Lib.hid hlG
      clear hlG hnG' g9 g10 hb4 hg4 ho hbel hlE2 hnC
      go_loopw [4, 9] (fun q i wr => ∃ k : Nat, k ≤ peers.length ∧ i = .int .i64 k ∧ OwnB C wr q (lG ++ Rp.numsB (peers.take k)) ∧ Below C w1 wr) (fun _ i _ => peers.length - (intOf i).toNat)
      case atStart => exact ⟨0, Nat.zero_le _, rfl, by simpa [Rp.numsB] using ho4, d4⟩
      case round =>
        clear ho4 d4
        obtain ⟨k, hk, rfl, ho, dF⟩ := hrel
        have g10 := c10 _ dF
        by_cases hlt : k < peers.length
        · as_aux_lemma =>
          have hlt' : (k : Int) < (peers.length : Int) := by omega
          have hNw := hP' _ dF
          obtain ⟨b, off, rfl, hbl, hc⟩ := Nums.at hNw (by omega)
          have hck := hc k hlt
          have hx : peers.getD k 0 < 18446744073709551616 := hNw.lt hlt
          have htk := numsB_take peers k hlt
          have hlen := numsB_len (peers.take k)
          rw [List.length_take] at hlen
          generalize peers.getD k 0 = x at *
          have HT := Lib.hid htk
          obtain ⟨l1, hl1⟩ : ∃ l1, l1 = lG ++ Rp.numsB (peers.take k) := ⟨_, rfl⟩
          have hl1n : l1.length + 10 ≤ 1000000 := by rw [hl1, List.length_append]; omega
          rw [← hl1] at ho
          have HL := Lib.hid hl1
          clear hc htk hlen hNw hl1
          obtain ⟨vo, vc, rfl, -, -⟩ := own_form ho
          go_wp2_with (go_at_call 58; refine (rnum_any C _ l1 x _ ho (hCs _ dF) hx hl1n).mono ?_; rintro e x3 ⟨v3, rfl, ho3, hc3, -⟩)
          refine ⟨⟨k + 1, by omega, by go_num, ?_, dF.trans hc3⟩, by simp [intOf]; omega⟩
          rw [HT.out, ← List.append_assoc, ← HL.out]
          exact ho3
        · obtain rfl : k = peers.length := by omega
          rw [List.take_length] at ho
          have hnF := numsB_len peers
          obtain ⟨lF, hlF⟩ : ∃ lF, lF = lG ++ Rp.numsB peers := ⟨_, rfl⟩
          have hnF2 : lF.length ≤ 41000 := by rw [hlF, List.length_append]; omega
          rw [← hlF] at ho
          have HF := Lib.hid hlF
          clear hlF hnF
          obtain ⟨vo, vc, rfl, -, -⟩ := own_form ho
          have oF : OwnB C wr.drew (.slice vo lF.length vc) lF := ho
          go_upto_region 21 with fail
          refine wp_region_held_drew (S := fun w' => Below C w1 w') (by kernel_rfl) dF.drew (fun h0 => ?_)
          refine wpAnyH_take (i := 0) (oi := { dst := _, op := _, type := _, pos := _, after := _, guard := _ }) (v := ?vd0) rfl (by kernel_rfl) (by kernel_rfl) (by kernel_rfl) (fun _ _ _ h => h) (Or.inl ⟨by rfl, ?yd0⟩) (by assumption) ?rd0; (case yd0 => intro w hSw; have g11 := c11 w hSw; have g12 := c12 w hSw; have g13 := c13 w hSw; go_simp <;> with_reducible rfl); simp only [Act.put, List.setIfInBounds_toArray, List.set_cons_zero, List.set_cons_succ]
          refine wpAnyH_take (i := 1) (oi := { dst := _, op := _, type := _, pos := _, after := _, guard := _ }) (v := ?vd1) rfl (by kernel_rfl) (by kernel_rfl) (by kernel_rfl) (fun _ _ _ h => h) (Or.inl ⟨by rfl, ?yd1⟩) (by assumption) ?rd1; (case yd1 => intro w hSw; have g11 := c11 w hSw; have g12 := c12 w hSw; have g13 := c13 w hSw; go_simp <;> with_reducible rfl); simp only [Act.put, List.setIfInBounds_toArray, List.set_cons_zero, List.set_cons_succ]
          refine wpAnyH_take (i := 2) (oi := { dst := _, op := _, type := _, pos := _, after := _, guard := _ }) (v := ?vd2) rfl (by kernel_rfl) (by kernel_rfl) (by kernel_rfl) (fun _ _ _ h => h) (Or.inl ⟨by rfl, ?yd2⟩) (by assumption) ?rd2; (case yd2 => intro w hSw; have g11 := c11 w hSw; have g12 := c12 w hSw; have g13 := c13 w hSw; go_simp <;> with_reducible rfl); simp only [Act.put, List.setIfInBounds_toArray, List.set_cons_zero, List.set_cons_succ]
          refine wpAnyH_take (i := 3) (oi := { dst := _, op := _, type := _, pos := _, after := _, guard := _ }) (v := ?vd3) rfl (by kernel_rfl) (by kernel_rfl) (by kernel_rfl) (fun _ _ _ h => h) (Or.inl ⟨by rfl, ?yd3⟩) (by assumption) ?rd3; (case yd3 => intro w hSw; have g11 := c11 w hSw; have g12 := c12 w hSw; have g13 := c13 w hSw; go_simp <;> with_reducible rfl); simp only [Act.put, List.setIfInBounds_toArray, List.set_cons_zero, List.set_cons_succ]
          refine wpAnyH_take (i := 5) (oi := { dst := _, op := _, type := _, pos := _, after := _, guard := _ }) (v := ?vd5) rfl (by kernel_rfl) (by kernel_rfl) (by kernel_rfl) (fun _ _ _ h => h) (Or.inl ⟨by rfl, ?yd5⟩) (by assumption) ?rd5; (case yd5 => intro w hSw; have g11 := c11 w hSw; have g12 := c12 w hSw; have g13 := c13 w hSw; go_simp <;> with_reducible rfl); simp only [Act.put, List.setIfInBounds_toArray, List.set_cons_zero, List.set_cons_succ]
          refine wpAnyH_take (i := 6) (oi := { dst := _, op := _, type := _, pos := _, after := _, guard := _ }) (v := ?vd6) rfl (by kernel_rfl) (by kernel_rfl) (by kernel_rfl) (fun _ _ _ h => h) (Or.inl ⟨by rfl, ?yd6⟩) (by assumption) ?rd6; (case yd6 => intro w hSw; have g11 := c11 w hSw; have g12 := c12 w hSw; have g13 := c13 w hSw; go_simp <;> with_reducible rfl); simp only [Act.put, List.setIfInBounds_toArray, List.set_cons_zero, List.set_cons_succ]
          refine wpAnyH_take (i := 7) (oi := { dst := _, op := _, type := _, pos := _, after := _, guard := _ }) (v := ?vd7) rfl (by kernel_rfl) (by kernel_rfl) (by kernel_rfl) (fun _ _ _ h => h) (Or.inl ⟨by rfl, ?yd7⟩) (by assumption) ?rd7; (case yd7 => intro w hSw; have g11 := c11 w hSw; have g12 := c12 w hSw; have g13 := c13 w hSw; go_simp <;> with_reducible rfl); simp only [Act.put, List.setIfInBounds_toArray, List.set_cons_zero, List.set_cons_succ]
          refine wpAnyH_take (i := 9) (oi := { dst := _, op := _, type := _, pos := _, after := _, guard := _ }) (v := ?vd9) rfl (by kernel_rfl) (by kernel_rfl) (by kernel_rfl) (fun _ _ _ h => h) (Or.inl ⟨by rfl, ?yd9⟩) (by assumption) ?rd9; (case yd9 => intro w hSw; have g11 := c11 w hSw; have g12 := c12 w hSw; have g13 := c13 w hSw; go_simp <;> with_reducible rfl); simp only [Act.put, List.setIfInBounds_toArray, List.set_cons_zero, List.set_cons_succ]
          refine wpAnyH_take (i := 10) (oi := { dst := _, op := _, type := _, pos := _, after := _, guard := _ }) (v := ?vd10) rfl (by kernel_rfl) (by kernel_rfl) (by kernel_rfl) (fun _ _ _ h => h) (Or.inl ⟨by rfl, ?yd10⟩) (by assumption) ?rd10; (case yd10 => intro w hSw; have g11 := c11 w hSw; have g12 := c12 w hSw; have g13 := c13 w hSw; go_simp <;> with_reducible rfl); simp only [Act.put, List.setIfInBounds_toArray, List.set_cons_zero, List.set_cons_succ]
          refine wpAnyH_take (i := 11) (oi := { dst := _, op := _, type := _, pos := _, after := _, guard := _ }) (v := ?vd11) rfl (by kernel_rfl) (by kernel_rfl) (by kernel_rfl) (fun _ _ _ h => h) (Or.inl ⟨by rfl, ?yd11⟩) (by assumption) ?rd11; (case yd11 => intro w hSw; have g11 := c11 w hSw; have g12 := c12 w hSw; have g13 := c13 w hSw; go_simp <;> with_reducible rfl); simp only [Act.put, List.setIfInBounds_toArray, List.set_cons_zero, List.set_cons_succ]
          refine wpAnyH_take (i := 12) (oi := { dst := _, op := _, type := _, pos := _, after := _, guard := _ }) (v := ?vd12) rfl (by kernel_rfl) (by kernel_rfl) (by kernel_rfl) (fun _ _ _ h => h) (Or.inl ⟨by rfl, ?yd12⟩) (by assumption) ?rd12; (case yd12 => intro w hSw; have g11 := c11 w hSw; have g12 := c12 w hSw; have g13 := c13 w hSw; go_simp <;> with_reducible rfl); simp only [Act.put, List.setIfInBounds_toArray, List.set_cons_zero, List.set_cons_succ]
          refine wpAnyH_take (i := 13) (oi := { dst := _, op := _, type := _, pos := _, after := _, guard := _ }) (v := ?vd13) rfl (by kernel_rfl) (by kernel_rfl) (by kernel_rfl) (fun _ _ _ h => h) (Or.inl ⟨by rfl, ?yd13⟩) (by assumption) ?rd13; (case yd13 => intro w hSw; have g11 := c11 w hSw; have g12 := c12 w hSw; have g13 := c13 w hSw; go_simp <;> with_reducible rfl); simp only [Act.put, List.setIfInBounds_toArray, List.set_cons_zero, List.set_cons_succ]
          refine wpAnyH_ready (rs := [4]) (by kernel_rfl) (by simp) ?_
          refine AllReadyH.cons (o := { dst := _, op := _, type := _, pos := _, after := _, guard := _ }) rfl (fun K hK => ?_) AllReadyH.nil
          go_simp
          refine (rnum_any C _ lF sidx _ oF (hCs _ h0) n7 (by first | omega | (simp only [List.length_nil] at *; omega))).mono ?_
          rintro e xD1 ⟨y, rfl, oD1, cD1, -⟩
          obtain ⟨lD1, hlD1⟩ : ∃ lD1, lD1 = lF ++ Pk.put sidx := ⟨_, rfl⟩
          have hnD1 : lD1.length ≤ lF.length + 10 := by have := Pk.put_len (sidx); rw [hlD1, List.length_append]; first | omega | (rw [List.length_nil]; omega)
          rw [← hlD1] at oD1
          have HD1 := Lib.hid hlD1
          clear hlD1
          obtain ⟨ya, yb, rfl, -, -⟩ := own_form oD1
          have dD1 := h0.trans cD1
          refine hK.out _ _ dD1 (fun _ => ?_)
          clear hK K
          refine wpAnyH_ready (rs := [8]) (by kernel_rfl) (by simp) ?_
          refine AllReadyH.cons (o := { dst := _, op := _, type := _, pos := _, after := _, guard := _ }) rfl (fun K hK => ?_) AllReadyH.nil
          go_simp
          refine (rnum_any C _ lD1 sterm _ oD1 (hCs _ dD1) n8 (by first | omega | (simp only [List.length_nil] at *; omega))).mono ?_
          rintro e xD2 ⟨y, rfl, oD2, cD2, -⟩
          obtain ⟨lD2, hlD2⟩ : ∃ lD2, lD2 = lD1 ++ Pk.put sterm := ⟨_, rfl⟩
          have hnD2 : lD2.length ≤ lD1.length + 10 := by have := Pk.put_len (sterm); rw [hlD2, List.length_append]; first | omega | (rw [List.length_nil]; omega)
          rw [← hlD2] at oD2
          have HD2 := Lib.hid hlD2
          clear hlD2
          obtain ⟨ya, yb, rfl, -, -⟩ := own_form oD2
          have dD2 := dD1.trans cD2
          refine hK.out _ _ dD2 (fun _ => ?_)
          clear hK K
          refine wpAnyH_ready (rs := [14]) (by kernel_rfl) (by simp) ?_
          refine AllReadyH.cons (o := { dst := _, op := _, type := _, pos := _, after := _, guard := _ }) rfl (fun K hK => ?_) AllReadyH.nil
          go_simp
          refine (rnum_any C _ lD2 image.length _ oD2 (hCs _ dD2) (by omega) (by first | omega | (simp only [List.length_nil] at *; omega))).mono ?_
          rintro e xD3 ⟨y, rfl, oD3, cD3, -⟩
          obtain ⟨lD3, hlD3⟩ : ∃ lD3, lD3 = lD2 ++ Pk.put image.length := ⟨_, rfl⟩
          have hnD3 : lD3.length ≤ lD2.length + 10 := by have := Pk.put_len (image.length); rw [hlD3, List.length_append]; first | omega | (rw [List.length_nil]; omega)
          rw [← hlD3] at oD3
          have HD3 := Lib.hid hlD3
          clear hlD3
          obtain ⟨ya, yb, rfl, -, -⟩ := own_form oD3
          have dD3 := dD2.trans cD3
          refine hK.out _ _ dD3 (fun _ => ?_)
          clear hK K
          refine wpAnyH_take (i := 15) (oi := { dst := _, op := _, type := _, pos := _, after := _, guard := _ }) (v := ?vd15) rfl (by kernel_rfl) (by kernel_rfl) (by kernel_rfl) (fun _ _ _ h => h) (Or.inl ⟨by rfl, ?yd15⟩) (by assumption) ?rd15; (case yd15 => intro w hSw; have g11 := c11 w hSw; have g12 := c12 w hSw; have g13 := c13 w hSw; go_simp <;> with_reducible rfl); simp only [Act.put, List.setIfInBounds_toArray, List.set_cons_zero, List.set_cons_succ]
          refine wpAnyH_done (by kernel_rfl) ?_ _
          have g13 := c13 _ dD3
          go_wp2_with (at_builtin; refine wpList_appB xD3 rfl _ _ rfl C oD3 (hI' _ dD3) rfl rfl (by omega) (hCs _ dD3) ?_; intro ao8 ac8 x8 ho8 hg8 hb8)
          go_ret2
          refine ⟨_, rfl, ?_, by rw [hN]; exact hb1.trans ((dD3.trans hb8).mono (Nat.le_of_lt hNl))⟩
          rw [hN, ← HA1.out.trans (List.nil_append _), ← HA2.out, ← HA3.out, ← HA4.out, ← HB0.out, ← HB1.out, ← HB2.out, ← HB3.out, ← HC.out, ← HE.out, ← HG.out, ← HF.out, ← HD1.out, ← HD2.out, ← HD3.out]
          exact ho8.mono (Nat.le_of_lt hNl)
end Go.Proofs.Ytlcnjinabfbglaa
