/- Put. -/
import Derived.Test.YtlcnjinabfbglaaR14
import Derived.Deep.DeepCutAuto
namespace Go.Proofs.Ytlcnjinabfbglaa
open Go.RowKit
theorem entsB_len : ∀ es : List Rp.Ent, (∀ e ∈ es, Rp.mayE e = true) → (Rp.entsB es).length ≤ 2050 * es.length
  | [], _ => by simp [Rp.entsB]
  | e :: es, h => by
    have := entsB_len es (fun x hx => h x (List.mem_cons_of_mem _ hx))
    have h1 := Rp.record_len e (h e (List.mem_cons_self ..))
    have h2 := Pk.put_len (Rp.record e).length
    have e1 : Rp.entsB (e :: es) = Pk.putText (Rp.record e) ++ Rp.entsB es := by simp [Rp.entsB]
    rw [e1, List.length_append, List.length_cons]
    simp only [Pk.putText, List.length_append]
    omega
theorem entsB_take (es : List EV) (k : Nat) (x : EV) (h : es[k]? = some x) : Rp.entsB ((es.take (k + 1)).map EV.ent) = Rp.entsB ((es.take k).map EV.ent) ++ Pk.putText (Rp.record x.ent) := by
  obtain ⟨hk, rfl⟩ := List.getElem?_eq_some_iff.1 h
  rw [List.take_succ_eq_append_getElem hk]
  simp only [Rp.entsB, List.map_append, List.map_cons, List.map_nil, List.flatMap_append, List.flatMap_cons, List.flatMap_nil, List.append_nil]
/-- a row of numbers in a block of its own -/
theorem Nums.lit {w w' : World} {b : Nat} {ns : List Nat} {n : Nat} (h : w.heap[b]? = some (.cells (ns.map u64).toArray 30 (0, 0))) (hn : n = ns.length) (hl : ns.length ≤ maxLen) (h64 : ∀ x ∈ ns, Rp.N64 x) (hk : K30 w w') : Nums w' (.slice (some ⟨b, 0, none⟩) n n) ns := by
  subst hn
  have := hk _ _ _ h
  refine ⟨?_, h64⟩
  have h2 := Sli.row (w := w') (g := b) (cap := ns.length) (E := 30) (us := ns.map u64) (sp := []) (by rw [List.append_nil]; exact this) (by simp) hl
  rw [List.length_map] at h2
  exact h2
/-- flags -/
theorem flags_eq (m : Rp.Msg) : ((if m.pre then 1 else 0 : Nat) + (if m.ok then 2 else 0 : Nat) : Nat) = Rp.flags m := rfl
set_option maxRecDepth 100000 in
set_option maxHeartbeats 4000000 in
theorem msgPut_bad (x : MV) (w : World) (h : MvOk w x) (hm : Rp.may x.m = false) : Calls Try.prog 40 #[msgV x] w fun r w' => r = .returned (.tuple #[.slice none 0 0, .int .i64 2]) ∧ Below w.heap.size w w' := by
  obtain ⟨m, ev, pv, iv, xs⟩ := x
  have hE : Ents w ev xs := h.ents
  have hP : Nums w pv m.peers := h.peers
  have hI : Bts w iv m.image := h.image
  obtain ⟨eo, ec, rfl, -, -, -⟩ := hE.form
  obtain ⟨po, pc, rfl, -, -, -⟩ := hP.form
  obtain ⟨io, ic, rfl, -, -, -⟩ := hI.form
  clear hE hP hI
  obtain ⟨kind, frm, too, term, pre, ok, index, logTerm, commit, ents, peers, sidx, sterm, image⟩ := m
  simp only at *
  have hal := Below.al (Below.refl w.heap.size w) (.cells #[.int .i64 kind, u64 frm, u64 too, u64 term, .bool pre, .bool ok, u64 index, u64 logTerm, u64 commit, .slice eo xs.length ec, .slice po peers.length pc, u64 sidx, u64 sterm, .slice io image.length ic] 62)
  have hM := may_any _ _ (h.keep hal)
  simp only [hm, msgV] at hM
  clear h hm
  show Calls Try.prog 40 #[.agg #[.int .i64 kind, u64 frm, u64 too, u64 term, .bool pre, .bool ok, u64 index, u64 logTerm, u64 commit, .slice eo xs.length ec, .slice po peers.length pc, u64 sidx, u64 sterm, .slice io image.length ic]] w fun r w' => r = .returned (.tuple #[.slice none 0 0, .int .i64 2]) ∧ Below w.heap.size w w'
  go_enter Try.func40, Try.ntmps40
  go_wp2_with (go_at_call 44; refine hM.mono ?_; rintro r w1 ⟨rfl, hc⟩)
  go_ret2
  exact ⟨rfl, Below.call hal hc⟩
set_option maxRecDepth 100000 in
set_option maxHeartbeats 8000000 in
theorem msgPut_ok (x : MV) (w : World) (h : MvOk w x) (hm : Rp.may x.m = true) : Calls Try.prog 40 #[msgV x] w fun r w' => ∃ v, r = .returned (.tuple #[v, .int .i64 0]) ∧ OwnB w.heap.size w' v (Rp.bytes x.m) ∧ Below w.heap.size w w' := by
  obtain ⟨a1, a2, a3, a4, a5, a6⟩ := Rp.may_spec x.m hm
  have hlx := may_len x h.xs
  have hnm := h.n
  have hbytes : Rp.bytes x.m = Rp.numsB (Rp.h1 x.m) ++ Rp.entsB (x.xs.map EV.ent) ++ Pk.put x.m.peers.length ++ Rp.numsB x.m.peers ++ Rp.numsB (Rp.h3 x.m) ++ x.m.image := by
    rw [h.xs]; unfold Rp.bytes Rp.head; simp only [List.append_assoc]
  have hE6 : ∀ e ∈ x.xs.map EV.ent, Rp.mayE e = true := by rw [h.xs]; exact a6
  have hN1 := Rp.h1_N x.m hnm hm
  have hN3 := Rp.h3_N x.m hnm hm
  rw [hbytes]
  obtain ⟨m, ev, pv, iv, xs⟩ := x
  simp only at *
  have hE : Ents w ev xs := h.ents
  have hP : Nums w pv m.peers := h.peers
  have hI : Bts w iv m.image := h.image
  obtain ⟨eo, ec, rfl, b1, b2, b3⟩ := hE.form
  obtain ⟨po, pc, rfl, -, -, -⟩ := hP.form
  obtain ⟨io, ic, rfl, -, -, -⟩ := hI.form
  unfold maxLen at b2
  obtain ⟨kk, hkk⟩ : ∃ kk : Nat, m.kind = (kk : Int) := ⟨m.kind.toNat, by omega⟩
  have hg1 : Rp.h1 m = [kk, m.frm, m.to, m.term, Rp.flags m, m.index, m.logTerm, m.commit, xs.length] := by unfold Rp.h1; rw [hkk, hlx]; rfl
  have hg3 : Rp.h3 m = [m.sidx, m.sterm, m.image.length] := rfl
  have hfl : Rp.flags m = (if m.pre then 1 else 0) + (if m.ok then 2 else 0) := rfl
  rw [hg1] at hN1 ⊢
  rw [hg3] at hN3 ⊢
  clear hg1 hg3 hbytes
  have hM0 := fun w' (hw : Below w.heap.size w w') => may_any _ w' (h.keep hw)
  simp only [hm, msgV] at hM0
  clear h hm hnm
  generalize Rp.flags m = fl at *
  obtain ⟨kind, frm, too, term, pre, ok, index, logTerm, commit, ents, peers, sidx, sterm, image⟩ := m
  simp only at *
  subst hkk
  have hlE : (Rp.entsB (xs.map EV.ent)).length ≤ 2050 * xs.length := by have := entsB_len _ hE6; rwa [List.length_map] at this
  have hal := Below.al (Below.refl w.heap.size w) (.cells #[.int .i64 (kk : Int), u64 frm, u64 too, u64 term, .bool pre, .bool ok, u64 index, u64 logTerm, u64 commit, .slice eo xs.length ec, .slice po peers.length pc, u64 sidx, u64 sterm, .slice io image.length ic] 62)
  have hrow : MvAt (w.alloc (.cells #[.int .i64 (kk : Int), u64 frm, u64 too, u64 term, .bool pre, .bool ok, u64 index, u64 logTerm, u64 commit, .slice eo xs.length ec, .slice po peers.length pc, u64 sidx, u64 sterm, .slice io image.length ic] 62)) w.heap.size ⟨⟨(kk : Int), frm, too, term, pre, ok, index, logTerm, commit, ents, peers, sidx, sterm, image⟩, .slice eo xs.length ec, .slice po peers.length pc, .slice io image.length ic, xs⟩ := new_at _ _ _ rfl
  have hM := hM0 _ hal
  clear hM0
  show Calls Try.prog 40 #[.agg #[.int .i64 (kk : Int), u64 frm, u64 too, u64 term, .bool pre, .bool ok, u64 index, u64 logTerm, u64 commit, .slice eo xs.length ec, .slice po peers.length pc, u64 sidx, u64 sterm, .slice io image.length ic]] w fun r w' => ∃ v, r = .returned (.tuple #[v, .int .i64 0]) ∧ OwnB w.heap.size w' v (_ ++ _ ++ _ ++ _ ++ _ ++ _) ∧ Below w.heap.size w w'
  obtain ⟨N, hN⟩ : ∃ N, w.heap.size = N := ⟨_, rfl⟩
  go_enter Try.func40, Try.ntmps40
  go_wp2_with fail
  refine hM.mono ?_
  rintro r w1 ⟨rfl, hc1⟩
  have hb1 := Below.call hal hc1
  replace hrow := hrow.keep hc1
  clear hM hal hc1
  rw [hN] at hrow hb1
  have hNl : N < w1.heap.size := hrow.lt
  have hca := Below.al (Below.refl w1.heap.size w1) (.cells #[.slice none 0 0] 22)
  have hC : NumAt (w1.alloc (.cells #[.slice none 0 0] 22)) w1.heap.size 22 (.slice none 0 0) := NumAt.mk _ _ _ _ rfl
  have hr2 := hrow.keep hca
  have hb2 := hb1.trans (hca.mono (Nat.le_of_lt hNl))
  go_upto_region 6 with fail
  generalize w1.alloc (.cells #[.slice none 0 0] 22) = W2 at *
  obtain ⟨C, hCe⟩ : ∃ C, w1.heap.size = C := ⟨_, rfl⟩
  rw [hCe] at hC ⊢
  have c0 : W2.cell? ⟨N, 0, none⟩ = some (.int .i64 (kk : Int)) := (hr2).at 0 _ rfl
  have c1 : W2.cell? ⟨N, 1, none⟩ = some (u64 frm) := (hr2).at 1 _ rfl
  have c2 : W2.cell? ⟨N, 2, none⟩ = some (u64 too) := (hr2).at 2 _ rfl
  have c3 : W2.cell? ⟨N, 3, none⟩ = some (u64 term) := (hr2).at 3 _ rfl
  have c4 : W2.cell? ⟨N, 4, none⟩ = some (.bool pre) := (hr2).at 4 _ rfl
  have c5 : W2.cell? ⟨N, 5, none⟩ = some (.bool ok) := (hr2).at 5 _ rfl
  have c6 : W2.cell? ⟨N, 6, none⟩ = some (u64 index) := (hr2).at 6 _ rfl
  have c7 : W2.cell? ⟨N, 7, none⟩ = some (u64 logTerm) := (hr2).at 7 _ rfl
  have c8 : W2.cell? ⟨N, 8, none⟩ = some (u64 commit) := (hr2).at 8 _ rfl
  have c9 : W2.cell? ⟨N, 9, none⟩ = some (.slice eo xs.length ec) := (hr2).at 9 _ rfl
  have c10 : W2.cell? ⟨N, 10, none⟩ = some (.slice po peers.length pc) := (hr2).at 10 _ rfl
  have c11 : W2.cell? ⟨N, 11, none⟩ = some (u64 sidx) := (hr2).at 11 _ rfl
  have c12 : W2.cell? ⟨N, 12, none⟩ = some (u64 sterm) := (hr2).at 12 _ rfl
  have c13 : W2.cell? ⟨N, 13, none⟩ = some (.slice io image.length ic) := (hr2).at 13 _ rfl
  clear hrow hca
  have HFL := Lib.hid hfl
  clear hfl
  go_upto_if 18 with fail
  go_cut [6] (fun s6 wx => s6 = .int .u64 ((if pre then 1 else 0 : Nat) : Int) ∧ wx = W2)
  case first => as_aux_lemma =>
    cases pre
    · go_wp2_with fail
      go_meet
      exact ⟨rfl, rfl⟩
    · go_wp2_with fail
      go_meet
      exact ⟨rfl, rfl⟩
  case rest =>
  obtain ⟨rfl, rfl⟩ := hcut
  go_upto_if 22 with fail
  go_cut [6] (fun s6 wx => s6 = .int .u64 (fl : Int) ∧ wx = wc)
  case first => as_aux_lemma =>
    cases pre <;> cases ok
    · go_wp2_with fail
      go_meet
      exact ⟨by rw [HFL.out]; rfl, rfl⟩
    · go_wp2_with fail
      go_meet
      exact ⟨by rw [HFL.out]; rfl, rfl⟩
    · go_wp2_with fail
      go_meet
      exact ⟨by rw [HFL.out]; rfl, rfl⟩
    · go_wp2_with fail
      go_meet
      exact ⟨by rw [HFL.out]; rfl, rfl⟩
  case rest =>
  obtain ⟨rfl, rfl⟩ := hcut
  have hal4 := Below.al (Below.refl wc.heap.size wc) (.cells #[.int .u64 kk, Ytlcnjinabfbglaa.u64 frm, Ytlcnjinabfbglaa.u64 too, Ytlcnjinabfbglaa.u64 term, .int .u64 fl, Ytlcnjinabfbglaa.u64 index, Ytlcnjinabfbglaa.u64 logTerm, Ytlcnjinabfbglaa.u64 commit, .int .u64 (xs.length : Int)] 30)
  have hW := num_any C (.slice (some ⟨wc.heap.size, 0, none⟩) 9 9) (.slice none 0 0) [kk, frm, too, term, fl, index, logTerm, commit, xs.length] [] (wc.alloc (.cells #[.int .u64 kk, Ytlcnjinabfbglaa.u64 frm, Ytlcnjinabfbglaa.u64 too, Ytlcnjinabfbglaa.u64 term, .int .u64 fl, Ytlcnjinabfbglaa.u64 index, Ytlcnjinabfbglaa.u64 logTerm, Ytlcnjinabfbglaa.u64 commit, .int .u64 (xs.length : Int)] 30)) (hC.keep hal4) (World.ownsRow_nil _ _ _ _) (fun w' _ hk => Nums.lit (b := wc.heap.size) (n := 9) (new_at _ _ _ rfl) rfl (by unfold maxLen; simp) hN1 hk) (by simp)
  have hCl : C < wc.heap.size := hC.lt
  have hNC : N < C := by rw [← hCe]; exact hNl
  have hlen1 := numsB_len [kk, frm, too, term, fl, index, logTerm, commit, xs.length]
  go_wp2_with fail
  refine hW.mono ?_
  rintro r w3 ⟨rfl, v3, hn3, ho3, hb3, -⟩
  replace hr2 := (hr2.keep hal4).keepAt hb3 hNC
  replace hb2 := hb2.trans (((hal4.mono (Nat.le_of_lt hCl)).trans hb3).mono (Nat.le_of_lt hNC))
  simp only [List.nil_append, List.length_cons, List.length_nil] at ho3 hlen1
  clear hW hal4 hCl hC hNl hCe hb1 c0 c1 c2 c3 c4 c5 c6 c7 c8 c9 c10 c11 c12 c13
  obtain ⟨L1, hL1⟩ : ∃ L1, L1 = Rp.numsB [kk, frm, too, term, fl, index, logTerm, commit, xs.length] := ⟨_, rfl⟩
  rw [← hL1] at ho3 hlen1
  have HL1 := Lib.hid hL1
  clear hL1
  have c9 : w3.cell? ⟨N, 9, none⟩ = some (.slice eo xs.length ec) := (hr2).at 9 _ rfl
  go_wp2_with fail
  go_loopw [51] (fun i wr => ∃ (k : Nat) (v' : Value), k ≤ xs.length ∧ i = .int .i64 k ∧ NumAt wr C 22 v' ∧ OwnB (C + 1) wr v' (L1 ++ Rp.entsB ((xs.take k).map EV.ent)) ∧ Below C w3 wr) (fun i _ => xs.length - (intOf i).toNat)
  case atStart => exact ⟨0, v3, Nat.zero_le _, rfl, hn3, by simpa [Rp.entsB] using ho3, Below.refl _ _⟩
  case round =>
    clear hn3 ho3
    obtain ⟨k, v1, hk, rfl, hn, ho, hbel⟩ := hrel
    have hbN : Below N w wr := hb2.trans (hbel.mono (Nat.le_of_lt hNC))
    by_cases hlt : k < xs.length
    · as_aux_lemma =>
      have hlt' : (k : Int) < (xs.length : Int) := by omega
      have hx : xs[k]? = some xs[k] := List.getElem?_eq_getElem hlt
      have hmx : Rp.mayE xs[k].ent = true := hE6 _ (List.mem_map_of_mem (List.getElem_mem hlt))
      obtain ⟨b, off, rfl, -, d0, d1, d2, hEv⟩ := Ents.at (hE.keep (by rw [hN]; exact hbN)) hx
      have htk := entsB_take xs k _ hx
      have hlk : (Rp.entsB ((xs.take k).map EV.ent)).length ≤ 2050 * 16 := by
        have := entsB_len ((xs.take k).map EV.ent) (fun e he => by
          obtain ⟨y, hy, rfl⟩ := List.mem_map.1 he
          exact hE6 _ (List.mem_map_of_mem (List.mem_of_mem_take hy)))
        rw [List.length_map, List.length_take] at this
        omega
      generalize xs[k] = x at *
      obtain ⟨vo, vc, hv, -⟩ := Bts.form hEv.1
      rw [hv] at d2
      have hal := Below.al (Below.refl wr.heap.size wr) (.cells #[Ytlcnjinabfbglaa.u64 x.idx, Ytlcnjinabfbglaa.u64 x.term, .slice vo x.body.length vc] 79)
      have hR := record_ok x _ (hEv.keep hal) hmx
      unfold entV at hR
      rw [hv] at hR
      have hrl := Rp.record_len _ hmx
      have hrp := Pk.put_len (Rp.record x.ent).length
      have htl : (Pk.putText (Rp.record x.ent)).length = (Pk.put (Rp.record x.ent).length).length + (Rp.record x.ent).length := by simp [Pk.putText]
      have hT := fun w' => putText_le ⟨(Rp.record x.ent).toArray⟩ w' (by rw [size_mk]; omega)
      simp only [sb_mk] at hT
      generalize Rp.record x.ent = rc at *
      generalize hpt : Pk.putText rc = pt at *
      have HT := Lib.hid htk
      obtain ⟨l1, hl1⟩ : ∃ l1, l1 = L1 ++ Rp.entsB ((xs.take k).map EV.ent) := ⟨_, rfl⟩
      have hl1n : l1.length + pt.length ≤ 1000000 := by rw [hl1, List.length_append]; omega
      rw [← hl1] at ho
      have HL := Lib.hid hl1
      have hnl := hn.lt
      obtain ⟨v1o, v1c, rfl, -, -⟩ := own_form ho
      clear hx hmx hEv htk hlk hrl hrp htl hpt hl1 hE6
      go_wp2_with (first
        | (go_at_call 57; refine hR.mono ?_; rintro e x2 ⟨v2, rfl, ho2, hc2⟩; obtain ⟨vo2, vc2, rfl, -, -⟩ := own_form ho2; have k2 := conv_str ho2.bts; have hb12 := hal.trans (hc2.mono hal.size))
        | (go_at_call 19; refine (hT x2).mono ?_; rintro e x3 ⟨v3', rfl, hc3, ho3⟩; obtain ⟨vo3, vc3, rfl, -, -⟩ := own_form ho3; have hb13 := hb12.trans (hc3.mono hb12.size); have hn3' := hn.keep hb13; have fc := hn3'.cell; have ho13 := ho.keep hb13)
        | (at_builtin; refine wpList_appB x3 rfl _ _ rfl (C + 1) ho13 ho3.bts rfl rfl (by omega) (Nat.le_trans hnl hb13.size) ?_; intro ao4 ac4 x4 ho4 hg4 hb4; have hn4 := hn3'.keepAt hb4 (Nat.lt_succ_self _); have fz := hn4.froz; have fc4 := hn4.cell))
      refine ⟨⟨k + 1, _, by omega, by go_num, hn4.set _, ?_, ((hbel.trans (hb13.mono (Nat.le_of_lt hnl))).trans (hb4.mono (Nat.le_succ _))).trans ((Below.refl C x4).setCell (p := ⟨C, 0, none⟩) (Nat.le_refl C) _)⟩, by simp [intOf]; omega⟩
      rw [HT.out, ← List.append_assoc, ← HL.out]
      exact OwnB.keepAt (_M := 0) ho4 (fun j hj => Below.heap_setCell _ _ _ _ (by have := (ho4.lt j hj).1; simp only; omega))
    · obtain rfl : k = xs.length := by omega
      rw [List.take_length] at ho
      clear c9 hE6 hk hlt
      replace hr2 := hr2.keepAt hbel hNC
      replace hb2 := hb2.trans (hbel.mono (Nat.le_of_lt hNC))
      have hl2 : (L1 ++ Rp.entsB (xs.map EV.ent)).length ≤ 40000 := by rw [List.length_append]; omega
      clear hbel hlen1 hlE
      obtain ⟨L2, hL2⟩ : ∃ L2, L2 = L1 ++ Rp.entsB (xs.map EV.ent) := ⟨_, rfl⟩
      rw [← hL2] at ho hl2
      have HL2 := Lib.hid hL2
      clear hL2
      have e10 : wr.cell? ⟨N, 10, none⟩ = some (.slice po peers.length pc) := hr2.at 10 _ rfl
      have hCl := hn.lt
      have hal5 := Below.al (Below.refl wr.heap.size wr) (.cells #[.int .u64 (peers.length : Int)] 30)
      have hW := num_any C (.slice (some ⟨wr.heap.size, 0, none⟩) 1 1) v1 [peers.length] L2 (wr.alloc (.cells #[.int .u64 (peers.length : Int)] 30)) (hn.keep hal5) (ho.keep hal5) (fun w' _ hk => Nums.lit (b := wr.heap.size) (n := 1) (new_at _ _ _ rfl) rfl (by unfold maxLen; simp) (by intro n hn; rw [List.mem_singleton] at hn; subst hn; unfold Rp.N64; omega) hk) (by simp only [List.length_cons, List.length_nil]; omega)
      go_wp2_with fail
      refine hW.mono ?_
      rintro r w5 ⟨rfl, v5, hn5, ho5, hb5, -⟩
      clear hW hn ho e10
      replace hr2 := (hr2.keep hal5).keepAt hb5 hNC
      replace hb2 := hb2.trans (((hal5.mono (Nat.le_of_lt hCl)).trans hb5).mono (Nat.le_of_lt hNC))
      have e1 : Rp.numsB [peers.length] = Pk.put peers.length := by simp [Rp.numsB]
      rw [e1] at ho5
      clear hal5 hb5 e1 hCl
      have hl3 : (L2 ++ Pk.put peers.length).length ≤ 40010 := by have := Pk.put_len peers.length; rw [List.length_append]; omega
      obtain ⟨L3, hL3⟩ : ∃ L3, L3 = L2 ++ Pk.put peers.length := ⟨_, rfl⟩
      rw [← hL3] at ho5 hl3
      have HL3 := Lib.hid hL3
      clear hL3
      have e10 : w5.cell? ⟨N, 10, none⟩ = some (.slice po peers.length pc) := hr2.at 10 _ rfl
      have hW := num_any C (.slice po peers.length pc) v5 peers L3 w5 hn5 ho5 (fun w' hb _ => hP.keep (by rw [hN]; exact hb2.trans (hb.mono (Nat.le_of_lt hNC)))) (by omega)
      go_wp2_with fail
      refine hW.mono ?_
      rintro r w6 ⟨rfl, v6, hn6, ho6, hb6, -⟩
      clear hW hn5 ho5 e10
      replace hr2 := hr2.keepAt hb6 hNC
      replace hb2 := hb2.trans (hb6.mono (Nat.le_of_lt hNC))
      clear hb6
      have hl4 : (L3 ++ Rp.numsB peers).length ≤ 40100 := by have := numsB_len peers; rw [List.length_append]; omega
      obtain ⟨L4, hL4⟩ : ∃ L4, L4 = L3 ++ Rp.numsB peers := ⟨_, rfl⟩
      rw [← hL4] at ho6 hl4
      have HL4 := Lib.hid hL4
      clear hL4
      have e11 : w6.cell? ⟨N, 11, none⟩ = some (Ytlcnjinabfbglaa.u64 sidx) := hr2.at 11 _ rfl
      have e12 : w6.cell? ⟨N, 12, none⟩ = some (Ytlcnjinabfbglaa.u64 sterm) := hr2.at 12 _ rfl
      have e13 : w6.cell? ⟨N, 13, none⟩ = some (.slice io image.length ic) := hr2.at 13 _ rfl
      have hCl := hn6.lt
      have hal6 := Below.al (Below.refl w6.heap.size w6) (.cells #[Ytlcnjinabfbglaa.u64 sidx, Ytlcnjinabfbglaa.u64 sterm, .int .u64 (image.length : Int)] 30)
      have hW := num_any C (.slice (some ⟨w6.heap.size, 0, none⟩) 3 3) v6 [sidx, sterm, image.length] L4 (w6.alloc (.cells #[Ytlcnjinabfbglaa.u64 sidx, Ytlcnjinabfbglaa.u64 sterm, .int .u64 (image.length : Int)] 30)) (hn6.keep hal6) (ho6.keep hal6) (fun w' _ hk => Nums.lit (b := w6.heap.size) (n := 3) (new_at _ _ _ rfl) rfl (by unfold maxLen; simp) hN3 hk) (by simp only [List.length_cons, List.length_nil]; omega)
      go_wp2_with fail
      refine hW.mono ?_
      rintro r w7 ⟨rfl, v7, hn7, ho7, hb7, -⟩
      clear hW hn6 ho6 e11 e12 e13
      replace hr2 := (hr2.keep hal6).keepAt hb7 hNC
      replace hb2 := hb2.trans (((hal6.mono (Nat.le_of_lt hCl)).trans hb7).mono (Nat.le_of_lt hNC))
      clear hal6 hb7 hCl
      have hl5 : (L4 ++ Rp.numsB [sidx, sterm, image.length]).length ≤ 40130 := by have := numsB_len [sidx, sterm, image.length]; simp only [List.length_cons, List.length_nil] at this; rw [List.length_append]; omega
      obtain ⟨L5, hL5⟩ : ∃ L5, L5 = L4 ++ Rp.numsB [sidx, sterm, image.length] := ⟨_, rfl⟩
      rw [← hL5] at ho7 hl5
      have HL5 := Lib.hid hL5
      clear hL5
      have e13 : w7.cell? ⟨N, 13, none⟩ = some (.slice io image.length ic) := hr2.at 13 _ rfl
      have hI7 : Bts w7 (.slice io image.length ic) image := hI.keep (by rw [hN]; exact hb2)
      have e4 := hn7.cell
      obtain ⟨v7o, v7c, rfl, -, -⟩ := own_form ho7
      have hCl := hn7.lt
      go_wp2_with (at_builtin; refine wpList_appB w7 rfl _ _ rfl (C + 1) ho7 hI7 rfl rfl (by omega) hCl ?_; intro ao8 ac8 x8 ho8 hg8 hb8)
      go_ret2
      refine ⟨_, rfl, ?_, by rw [hN]; exact hb2.trans (hb8.mono (Nat.le_of_lt (Nat.lt_succ_of_lt hNC)))⟩
      rw [hN, ← HL1.out, ← HL2.out, ← HL3.out, ← HL4.out, ← HL5.out]
      exact ho8.mono (Nat.le_of_lt (Nat.lt_succ_of_lt hNC))
end Go.Proofs.Ytlcnjinabfbglaa
