/- Whether a message may be. -/
import Derived.Test.YtlcnjinabfbglaaR5
namespace Go.Proofs.Ytlcnjinabfbglaa
open Go.RowKit
set_option maxRecDepth 100000 in
theorem may1_any (e : EV) (w : World) (h : EvOk w e) : Calls Try.prog 68 #[entV e] w fun r w' => r = .returned (.bool (!Rp.mayE e.ent)) ∧ Below w.heap.size w w' := by
  have hv : ∃ ao cap, e.v = .slice ao e.body.length cap := by obtain ⟨ao, cap, hv, -⟩ := Bts.form h.1; exact ⟨ao, cap, hv⟩
  obtain ⟨ao, cap, hv⟩ := hv
  have hal := Below.al (Below.refl w.heap.size w) (.cells #[u64 e.idx, u64 e.term, .slice ao e.body.length cap] 79)
  have h1 := h.keep hal
  have he : entV e = .agg #[u64 e.idx, u64 e.term, .slice ao e.body.length cap] := by unfold entV; rw [hv]
  cases hm : Rp.mayE e.ent with
  | true =>
    have hr := record_ok e _ h1 hm
    rw [he] at hr ⊢
    go_enter Try.func68, Try.ntmps68
    go_wp2_with (go_at_call 57; refine hr.mono ?_; rintro r w1 ⟨v, rfl, -, hc⟩)
    go_ret
    exact ⟨rfl, Below.call hal hc⟩
  | false =>
    have hr := record_bad e _ h1 hm
    rw [he] at hr ⊢
    go_enter Try.func68, Try.ntmps68
    go_wp2_with fail
    refine hr.mono ?_
    rintro r w1 ⟨c, hcc, rfl, hc⟩
    rcases hcc with rfl | rfl
    · go_wp2_with fail
      go_ret
      exact ⟨rfl, Below.call hal hc⟩
    · go_wp2_with fail
      go_ret
      exact ⟨rfl, Below.call hal hc⟩
def okE (x : EV) : Bool := Rp.mayE x.ent
set_option maxRecDepth 100000 in
set_option maxHeartbeats 1000000 in
theorem indexFunc_any (v : Value) (xs : List EV) (w : World) (h : Ents w v xs) : Calls Try.prog 79 #[v, .func (.func 68) #[] #[]] w fun r w' => ∃ k : Int, r = .returned (.int .i64 k) ∧ decide (0 ≤ k) = !(xs.all okE) ∧ Below w.heap.size w w' := by
  obtain ⟨ao, cap, rfl, h1, h2, h3⟩ := h.form
  unfold maxLen at h2
  go_enter Try.func79, Try.ntmps79
  go_wp2_with fail
  go_loopw [8] (fun i wr => ∃ k : Nat, k ≤ xs.length ∧ i = .int .i64 k ∧ Below w.heap.size w wr ∧ ∀ x ∈ xs.take k, okE x = true) (fun i _ => xs.length - (intOf i).toNat)
  case atStart => exact ⟨0, Nat.zero_le _, rfl, Below.refl _ _, by simp⟩
  case round =>
    obtain ⟨k, hk, rfl, hbel, hok⟩ := hrel
    by_cases hlt : k < xs.length
    · have hlt' : (k : Int) < (xs.length : Int) := by omega
      have hx : xs[k]? = some xs[k] := List.getElem?_eq_getElem hlt
      obtain ⟨b, off, rfl, -, c0, c1, c2, hE⟩ := Ents.at (h.keep hbel) hx
      have ht : ∀ y ∈ xs.take (k + 1), y ∈ xs.take k ∨ y = xs[k] := fun y hy => by
        rw [List.take_succ_eq_append_getElem hlt] at hy
        rcases List.mem_append.1 hy with hy | hy
        · exact .inl hy
        · exact .inr (by simpa using hy)
      have hmem : xs[k] ∈ xs := List.getElem_mem hlt
      generalize xs[k] = x at *
      have hM := may1_any x _ hE
      have HT := Lib.hid ht
      have HO := Lib.hid hok
      cases hm : okE x with
      | true =>
        have hm' : Rp.mayE x.ent = true := hm
        rw [hm'] at hM
        have hok2 : ∀ y ∈ xs.take (k + 1), okE y = true := fun y hy => by
          rcases HT.out y hy with hy | rfl
          · exact HO.out y hy
          · exact hm
        have HO2 := Lib.hid hok2
        clear hx ht hok HT HO hm hm' hok2 hE
        go_wp2_with (go_at_call 68; refine hM.mono ?_; rintro r w1 ⟨rfl, hc⟩)
        exact ⟨⟨k + 1, by omega, by go_num, Below.call hbel hc, HO2.out⟩, by simp [intOf]; omega⟩
      | false =>
        have hm' : Rp.mayE x.ent = false := hm
        rw [hm'] at hM
        have hall : xs.all okE = false := by
          rw [List.all_eq_false]
          exact ⟨x, hmem, by rw [hm]; simp⟩
        have HA := Lib.hid hall
        clear hx ht hok HT HO hm hm' hall hE hmem
        go_wp2_with (go_at_call 68; refine hM.mono ?_; rintro r w1 ⟨rfl, hc⟩)
        go_ret
        exact ⟨(k : Int), rfl, by rw [HA.out]; simp, Below.call hbel hc⟩
    · obtain rfl : k = xs.length := by omega
      rw [List.take_length] at hok
      have hall : xs.all okE = true := List.all_eq_true.2 hok
      have HA := Lib.hid hall
      clear hok hall
      go_wp2_with fail
      go_ret
      exact ⟨-1, rfl, by rw [HA.out]; decide, hbel⟩
set_option maxRecDepth 100000 in
theorem containsFunc_any (v : Value) (xs : List EV) (w : World) (h : Ents w v xs) : Calls Try.prog 67 #[v, .func (.func 68) #[] #[]] w fun r w' => r = .returned (.bool (!(xs.all okE))) ∧ Below w.heap.size w w' := by
  have hI := indexFunc_any v xs w h
  generalize xs.all okE = q at hI
  go_enter Try.func67, Try.ntmps67
  go_wp2_with (go_at_call 79; refine hI.mono ?_; rintro r w1 ⟨k, rfl, hk, hc⟩)
  go_ret
  exact ⟨rfl, hc⟩
/-- a message in its box -/
def mvC (x : MV) : Array Value := #[.int .i64 x.m.kind, u64 x.m.frm, u64 x.m.to, u64 x.m.term, .bool x.m.pre, .bool x.m.ok, u64 x.m.index, u64 x.m.logTerm, u64 x.m.commit, x.ev, x.pv, u64 x.m.sidx, u64 x.m.sterm, x.iv]
def MvAt (W : World) (N : Nat) (x : MV) : Prop := W.heap[N]? = some (.cells (mvC x) 62 (0, 0))
theorem MvAt.lt {W : World} {N : Nat} {x : MV} (h : MvAt W N x) : N < W.heap.size := (Array.getElem?_eq_some_iff.1 h).1
theorem MvAt.keep {W W' : World} {N : Nat} {x : MV} (h : MvAt W N x) (hb : Below W.heap.size W W') : MvAt W' N x := (hb.block _ h.lt).trans h
theorem MvAt.at {W : World} {N : Nat} {x : MV} (h : MvAt W N x) (i : Nat) (u : Value) (hi : (mvC x)[i]? = some u) : W.cell? ⟨N, i, none⟩ = some u := by
  rw [cell_of_row W N i _ 62 (0, 0) h]; exact hi
theorem may_all (x : MV) (hx : x.xs.map EV.ent = x.m.ents) : x.xs.all okE = x.m.ents.all Rp.mayE := by
  rw [← hx, List.all_map]; rfl
theorem may_len (x : MV) (hx : x.xs.map EV.ent = x.m.ents) : x.m.ents.length = x.xs.length := by rw [← hx]; simp
set_option maxRecDepth 100000 in
set_option maxHeartbeats 4000000 in
theorem may_any (x : MV) (w : World) (h : MvOk w x) : Calls Try.prog 44 #[msgV x] w fun r w' => r = .returned (.bool (Rp.may x.m)) ∧ Below w.heap.size w w' := by
  have hl := may_len x h.xs
  have hall := may_all x h.xs
  obtain ⟨m, ev, pv, iv, xs⟩ := x
  obtain ⟨hE, hP, hI, -, -, -, -⟩ := h
  simp only at hE hP hI hl hall
  obtain ⟨eo, ec, rfl, -, -, -⟩ := hE.form
  obtain ⟨po, pc, rfl, -, -, -⟩ := hP.form
  obtain ⟨io, ic, rfl, -, -, -⟩ := hI.form
  have hal := Below.al (Below.refl w.heap.size w) (.cells (mvC ⟨m, .slice eo xs.length ec, .slice po m.peers.length pc, .slice io m.image.length ic, xs⟩) 62)
  have hrow : MvAt (w.alloc (.cells (mvC ⟨m, .slice eo xs.length ec, .slice po m.peers.length pc, .slice io m.image.length ic, xs⟩) 62)) w.heap.size ⟨m, .slice eo xs.length ec, .slice po m.peers.length pc, .slice io m.image.length ic, xs⟩ := by unfold MvAt World.alloc; simp
  have hE1 := hE.keep hal
  have hP1 := hP.keep hal
  obtain ⟨R, hR⟩ : ∃ R, R = Rp.may m := ⟨_, rfl⟩
  show Calls Try.prog 44 #[.agg (mvC ⟨m, .slice eo xs.length ec, .slice po m.peers.length pc, .slice io m.image.length ic, xs⟩)] w fun r w' => r = .returned (.bool (Rp.may m)) ∧ Below w.heap.size w w'
  rw [← hR]
  rw [Rp.may, hl, ← hall] at hR
  have HR := Lib.hid hR
  clear hR hl hall hE hP hI
  obtain ⟨kind, frm, to, term, pre, ok, index, logTerm, commit, ents, peers, sidx, sterm, image⟩ := m
  simp only [mvC] at *
  have hPM := peersMay_any _ _ _ hP1
  by_cases g1 : kind < 1
  · have hR := HR.out
    rw [decide_eq_false (show ¬ 1 ≤ kind by omega)] at hR
    simp only [Bool.false_and] at hR
    subst hR
    clear HR
    go_enter Try.func44, Try.ntmps44
    go_wp2_with fail
    go_ret
    exact ⟨rfl, hal⟩
  by_cases g2 : 5 < kind
  · have hR := HR.out
    rw [decide_eq_false (show ¬ kind ≤ 5 by omega)] at hR
    simp only [Bool.false_and, Bool.and_false] at hR
    subst hR
    clear HR
    go_enter Try.func44, Try.ntmps44
    go_wp2_with fail
    go_ret
    exact ⟨rfl, hal⟩
  by_cases g3 : (16 : Int) < (xs.length : Int)
  · have hR := HR.out
    rw [decide_eq_false (show ¬ xs.length ≤ 16 by omega)] at hR
    simp only [Bool.false_and, Bool.and_false] at hR
    subst hR
    clear HR
    go_enter Try.func44, Try.ntmps44
    go_wp2_with fail
    go_ret
    exact ⟨rfl, hal⟩
  by_cases g4 : (262144 : Int) < (image.length : Int)
  · have hR := HR.out
    rw [decide_eq_false (show ¬ image.length ≤ 262144 by omega)] at hR
    simp only [Bool.false_and, Bool.and_false] at hR
    subst hR
    clear HR
    go_enter Try.func44, Try.ntmps44
    go_wp2_with fail
    go_ret
    exact ⟨rfl, hal⟩
  have hR := HR.out
  rw [decide_eq_true (show 1 ≤ kind by omega), decide_eq_true (show kind ≤ 5 by omega), decide_eq_true (show xs.length ≤ 16 by omega), decide_eq_true (show image.length ≤ 262144 by omega)] at hR
  simp only [Bool.true_and] at hR
  clear HR
  by_cases g5 : (0 : Int) < (peers.length : Int)
  · have hne : peers.isEmpty = false := by cases peers with
      | nil => simp at g5
      | cons => rfl
    rw [hne, Bool.false_or] at hR
    cases hm : Rp.mayP peers with
    | false =>
      rw [hm, Bool.false_and] at hR
      rw [hm] at hPM
      subst hR
      clear hm hne
      go_enter Try.func44, Try.ntmps44
      go_wp2_with (go_at_call 66; refine hPM.mono ?_; rintro r w1 ⟨rfl, hc⟩)
      go_ret
      exact ⟨rfl, Below.call hal hc⟩
    | true =>
      rw [hm, Bool.true_and] at hR
      rw [hm] at hPM
      subst hR
      clear hm hne
      go_enter Try.func44, Try.ntmps44
      go_wp2_with (go_at_call 66; refine hPM.mono ?_; rintro r w1 ⟨rfl, hc⟩; have hE2 := hE1.keep hc; have c9 := (hrow.keep hc).at 9 _ rfl)
      refine (containsFunc_any _ _ _ hE2).mono ?_
      rintro r w2 ⟨rfl, hc2⟩
      go_wp2_with fail
      go_ret
      exact ⟨ret_bool (by simp), Below.call (Below.call hal hc) hc2⟩
  · have hne : peers.isEmpty = true := by cases peers with
      | nil => rfl
      | cons => simp at g5
    rw [hne, Bool.true_or, Bool.true_and] at hR
    subst hR
    clear hne
    go_enter Try.func44, Try.ntmps44
    go_wp2_with fail
    refine (containsFunc_any _ _ _ hE1).mono ?_
    rintro r w2 ⟨rfl, hc2⟩
    go_wp2_with fail
    go_ret
    exact ⟨ret_bool (by simp), Below.call hal hc2⟩
end Go.Proofs.Ytlcnjinabfbglaa
