/- Whether a message may be: the reference's. -/
import Derived.Test.YtlcnjinabfbglaaR6
namespace Go.Proofs.Ytlcnjinabfbglaa
open Go.RowKit
set_option maxRecDepth 100000 in
set_option maxHeartbeats 4000000 in
theorem refMay_any (x : MV) (w : World) (h : MvOk w x) : Calls Try.prog 45 #[msgV x] w fun r w' => r = .returned (.bool (Rp.may x.m)) ∧ Below w.heap.size w w' := by
  have hl := may_len x h.xs
  have hall := may_all x h.xs
  obtain ⟨m, ev, pv, iv, xs⟩ := x
  obtain ⟨hE, hP, hI, -, -, -, -⟩ := h
  simp only at hE hP hI hl hall
  obtain ⟨eo, ec, rfl, e1, e2, -⟩ := hE.form
  obtain ⟨po, pc, rfl, -, -, -⟩ := hP.form
  obtain ⟨io, ic, rfl, -, -, -⟩ := hI.form
  unfold maxLen at e2
  have hal := Below.al (Below.refl w.heap.size w) (.cells (mvC ⟨m, .slice eo xs.length ec, .slice po m.peers.length pc, .slice io m.image.length ic, xs⟩) 62)
  have hrow : MvAt (w.alloc (.cells (mvC ⟨m, .slice eo xs.length ec, .slice po m.peers.length pc, .slice io m.image.length ic, xs⟩) 62)) w.heap.size ⟨m, .slice eo xs.length ec, .slice po m.peers.length pc, .slice io m.image.length ic, xs⟩ := by unfold MvAt World.alloc; simp
  have hE1 := hE.keep hal
  have hP1 := hP.keep hal
  obtain ⟨R, hR⟩ : ∃ R, R = Rp.may m := ⟨_, rfl⟩
  show Calls Try.prog 45 #[.agg (mvC ⟨m, .slice eo xs.length ec, .slice po m.peers.length pc, .slice io m.image.length ic, xs⟩)] w fun r w' => r = .returned (.bool (Rp.may m)) ∧ Below w.heap.size w w'
  rw [← hR]
  rw [Rp.may, hl, ← hall] at hR
  have HR := Lib.hid hR
  clear hR hl hall hE hP hI
  obtain ⟨kind, frm, to, term, pre, ok, index, logTerm, commit, ents, peers, sidx, sterm, image⟩ := m
  simp only [mvC] at *
  go_enter Try.func45, Try.ntmps45
  go_wp2_with fail
  obtain ⟨N, hN⟩ : ∃ N, w.heap.size = N := ⟨_, rfl⟩
  rw [hN] at hal hrow ⊢
  generalize w.alloc (.cells #[.int .i64 kind, u64 frm, u64 to, u64 term, .bool pre, .bool ok, u64 index, u64 logTerm, u64 commit, .slice eo xs.length ec, .slice po peers.length pc, u64 sidx, u64 sterm, .slice io image.length ic] 62) = W at *
  have c0 : W.cell? ⟨N, 0, none⟩ = some (.int .i64 kind) := hrow.at 0 _ rfl
  have c9 : W.cell? ⟨N, 9, none⟩ = some (.slice eo xs.length ec) := hrow.at 9 _ rfl
  have c10 : W.cell? ⟨N, 10, none⟩ = some (.slice po peers.length pc) := hrow.at 10 _ rfl
  have c13 : W.cell? ⟨N, 13, none⟩ = some (.slice io image.length ic) := hrow.at 13 _ rfl

  go_loopw [3] (fun i wr => ∃ k : Nat, k ≤ xs.length ∧ i = .int .i64 k ∧ wr = W ∧ ∀ x ∈ xs.take k, okE x = true) (fun i _ => xs.length - (intOf i).toNat)
  case atStart => exact ⟨0, Nat.zero_le _, rfl, rfl, by simp⟩
  case round =>
    obtain ⟨k, hk, rfl, rfl, hok⟩ := hrel
    by_cases hlt : k < xs.length
    · as_aux_lemma =>
      have hlt' : (k : Int) < (xs.length : Int) := by omega
      have hx : xs[k]? = some xs[k] := List.getElem?_eq_getElem hlt
      obtain ⟨b, off, rfl, -, d0, d1, d2, hEv⟩ := Ents.at hE1 hx
      have ht : ∀ y ∈ xs.take (k + 1), y ∈ xs.take k ∨ y = xs[k] := fun y hy => by
        rw [List.take_succ_eq_append_getElem hlt] at hy
        rcases List.mem_append.1 hy with hy | hy
        · exact .inl hy
        · exact .inr (by simpa using hy)
      have hmem : xs[k] ∈ xs := List.getElem_mem hlt
      generalize xs[k] = x at *
      obtain ⟨bo, bc, hbv, -⟩ := Bts.form hEv.1
      rw [hbv] at d2
      have hi64 := hEv.2.1
      unfold Rp.N64 at hi64
      simp only [EV.ent] at hi64
      have HT := Lib.hid ht
      have HO := Lib.hid hok
      cases hm : okE x with
      | true =>
        obtain ⟨q1, q2⟩ := mayE_ok _ hm
        simp only [EV.ent] at q1 q2
        have q1' : (((x.idx : Nat) : Int) == 0) = false := by rw [beq_eq_false_iff_ne]; omega
        have q2' : ¬ (2000 : Int) < (x.body.length : Int) := by omega
        have hok2 : ∀ y ∈ xs.take (k + 1), okE y = true := fun y hy => by
          rcases HT.out y hy with hy | rfl
          · exact HO.out y hy
          · exact hm
        have HO2 := Lib.hid hok2
        clear hx ht hok HT HO hm hok2 hEv q1 q2
        go_wp2_with fail
        exact ⟨⟨k + 1, by omega, by go_num, by simp, HO2.out⟩, by simp [intOf]; omega⟩
      | false =>
        have hall : xs.all okE = false := by
          rw [List.all_eq_false]
          exact ⟨x, hmem, by rw [hm]; simp⟩
        have hR := HR.out
        rw [hall, Bool.and_false] at hR
        subst hR
        rcases mayE_bad _ hm with q1 | ⟨q1, q2⟩
        · simp only [EV.ent] at q1
          rw [q1] at d0
          clear hx ht hok HT HO hm hall hEv HR hmem
          go_wp2_with fail
          go_ret
          exact ⟨rfl, by first | exact hal | (rw [hN]; exact hal)⟩
        · simp only [EV.ent] at q1 q2
          have q1' : (((x.idx : Nat) : Int) == 0) = false := by rw [beq_eq_false_iff_ne]; omega
          have q2' : (2000 : Int) < (x.body.length : Int) := by omega
          clear hx ht hok HT HO hm hall hEv HR hmem q1 q2
          go_wp2_with fail
          go_ret
          exact ⟨rfl, by first | exact hal | (rw [hN]; exact hal)⟩
    · obtain rfl : k = xs.length := by omega
      rw [List.take_length] at hok
      have hall : xs.all okE = true := List.all_eq_true.2 hok
      have hR := HR.out
      rw [hall, Bool.and_true] at hR
      clear HR hok hall
      have hPM := refPeersMay_any _ _ _ hP1
      have hfin : ∀ q : Bool, (decide (1 ≤ kind) && decide (kind ≤ 5) && decide (xs.length ≤ 16) && decide (image.length ≤ 262144) && q) = (q && (decide (1 ≤ kind) && decide (kind ≤ 5) && decide ((xs.length : Int) ≤ 16) && decide ((image.length : Int) ≤ 262144))) := by
        intro q
        have y1 : decide (xs.length ≤ 16) = decide ((xs.length : Int) ≤ 16) := by rw [decide_eq_decide]; omega
        have y2 : decide (image.length ≤ 262144) = decide ((image.length : Int) ≤ 262144) := by rw [decide_eq_decide]; omega
        rw [y1, y2, Bool.and_comm]
      rw [hfin] at hR
      clear hfin
      by_cases g5 : (0 : Int) < (peers.length : Int)
      · have hne : peers.isEmpty = false := by cases peers with
          | nil => simp at g5
          | cons => rfl
        rw [hne, Bool.false_or] at hR
        cases hm : Rp.mayP peers with
        | false =>
          rw [hm, Bool.false_and] at hR
          rw [hm] at hPM
          subst hR
          clear hm hne
          go_wp2_with (go_at_call 69; refine hPM.mono ?_; rintro r w1 ⟨rfl, hc⟩)
          go_ret
          exact ⟨rfl, by first | exact hal.trans (hc.mono (Nat.le_of_lt hrow.lt)) | (rw [hN]; exact hal.trans (hc.mono (Nat.le_of_lt hrow.lt)))⟩
        | true =>
          rw [hm, Bool.true_and] at hR
          rw [hm] at hPM
          have HR2 := Lib.hid hR
          clear hm hne hR
          go_wp2_with (go_at_call 69; refine hPM.mono ?_; rintro r w1 ⟨rfl, hc⟩; have d0 : w1.cell? ⟨N, 0, none⟩ = some (.int .i64 kind) := (hrow.keep hc).at 0 _ rfl; have d9 : w1.cell? ⟨N, 9, none⟩ = some (.slice eo xs.length ec) := (hrow.keep hc).at 9 _ rfl; have d13 : w1.cell? ⟨N, 13, none⟩ = some (.slice io image.length ic) := (hrow.keep hc).at 13 _ rfl)
          all_goals go_ret
          all_goals refine ⟨ret_bool ?_, by first | exact hal.trans (hc.mono (Nat.le_of_lt hrow.lt)) | (rw [hN]; exact hal.trans (hc.mono (Nat.le_of_lt hrow.lt)))⟩
          all_goals rw [HR2.out]
          all_goals (simp [*] <;> omega)
      · have hne : peers.isEmpty = true := by cases peers with
          | nil => rfl
          | cons => simp at g5
        rw [hne, Bool.true_or, Bool.true_and] at hR
        have HR2 := Lib.hid hR
        clear hne hR
        go_wp2_with fail
        all_goals go_ret
        all_goals refine ⟨ret_bool ?_, by first | exact hal | (rw [hN]; exact hal)⟩
        all_goals rw [HR2.out]
        all_goals (simp [*] <;> omega)
end Go.Proofs.Ytlcnjinabfbglaa
