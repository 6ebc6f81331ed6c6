import Derived.Test.YtaepkmjlkenenaaF3
namespace Go.Proofs.Ytaepkmjlkenenaa
open Go.RowKit

set_option maxRecDepth 100000 in
theorem refAhead_any (f : Fi.Fire) (now n : Int) (hr0 : 1 ≤ n) (hr1 : n ≤ 1099511627776) (hf : Fi.I64 f.at') (hnow : Fi.I64 now) (w : World) :
    Calls Try.prog 41 #[.int .i64 f.at', .int .i64 now, .int .i64 n] w fun e w' => e = .returned (.bool (Fi.ahead n now f)) ∧ w = w' := by
  obtain ⟨f0, f1⟩ := hf
  obtain ⟨n0, n1⟩ := hnow
  unfold Fi.ahead
  generalize f.at' = a at *
  by_cases h1 : a < now
  · by_cases h2 : a < 0
    · by_cases h3 : 9223372036854775807 + a < now
      · go_enter Try.func41, Try.ntmps41
        go_wp2_with fail
        go_ret
        exact ⟨ret_bool (by first | (simp; done) | (simp; omega)), rfl⟩
      · have hw : IntKind.i64.wrap (now - a) = now - a := IntWalk.i64_in _ (by omega)
        go_enter Try.func41, Try.ntmps41
        go_wp2_with fail
        go_ret
        exact ⟨ret_bool (by first | (simp; done) | (simp; omega)), rfl⟩
    · have hw : IntKind.i64.wrap (now - a) = now - a := IntWalk.i64_in _ (by omega)
      go_enter Try.func41, Try.ntmps41
      go_wp2_with fail
      go_ret
      exact ⟨ret_bool (by first | (simp; done) | (simp; omega)), rfl⟩
  · go_enter Try.func41, Try.ntmps41
    go_wp2_with fail
    go_ret
    exact ⟨ret_bool (by first | (simp; done) | (simp; omega)), rfl⟩

theorem step1 (s : Fi.Sum) (f : Fi.Fire) (h : f.state = 1) : Fi.step s f = { s with due := s.due + 1 } := by unfold Fi.step; rw [if_pos h]
theorem step2 (s : Fi.Sum) (f : Fi.Fire) (h : f.state = 2) : Fi.step s f = { s with run := s.run + 1 } := by unfold Fi.step; rw [if_neg (by omega), if_pos h]
theorem step3 (s : Fi.Sum) (f : Fi.Fire) (h : f.state = 3) : Fi.step s f = { s with streak := 0 } := by unfold Fi.step; rw [if_neg (by omega), if_neg (by omega), if_pos h]
theorem step4 (s : Fi.Sum) (f : Fi.Fire) (h : f.state = 4) : Fi.step s f = { s with streak := s.streak + 1 } := by unfold Fi.step; rw [if_neg (by omega), if_neg (by omega), if_neg (by omega), if_pos h]
theorem step5 (s : Fi.Sum) (f : Fi.Fire) (h1 : f.state ≠ 1) (h2 : f.state ≠ 2) (h3 : f.state ≠ 3) (h4 : f.state ≠ 4) : Fi.step s f = s := by unfold Fi.step; rw [if_neg h1, if_neg h2, if_neg h3, if_neg h4]

set_option maxRecDepth 100000 in
set_option maxHeartbeats 4000000 in
theorem refAmiss_any (r : Fi.Rule) (l : List Fi.Fire) (v : Value) (now : Int) (hf : ∀ f ∈ l, Fi.I64 f.at') (hnow : Fi.I64 now) (hn : l.length ≤ 1000000) (w : World) (hl : Fires w v l) :
    Calls Try.prog 16 #[ruleV r, v, .int .i64 now] w fun e w' => e = .returned (.bool (Fi.amiss r l now)) ∧ Below w.heap.size w w' := by
  obtain ⟨ao, cap, rfl, h1, h2, h3⟩ := hl.form
  have R := RuleAt.new w 39 r w.heap.size rfl
  have hbr := Below.al (Below.refl w.heap.size w) (.cells #[.int .u8 r.kind, .int .u64 r.job, .int .i64 r.n] 39)
  have hA : Fi.amiss r l now = (if Fi.may r = true then (if r.kind = 1 then (Fi.own r.job l).any (Fi.late r.n now) else if r.kind = 2 then decide (r.n ≤ (Fi.sum (Fi.own r.job l)).streak) else if r.kind = 3 then decide (r.n ≤ (Fi.sum (Fi.own r.job l)).due + (Fi.sum (Fi.own r.job l)).run) else !(Fi.own r.job l).any (Fi.loud r.n now)) else false) := rfl
  have HA := Lib.hid hA
  clear hA
  obtain ⟨b, hB⟩ : ∃ b, w.heap.size = b := ⟨_, rfl⟩
  unfold ruleV
  go_enter Try.func16, Try.ntmps16
  go_wp2_with fail
  rw [hB] at R hbr
  generalize w.alloc (.cells #[.int .u8 r.kind, .int .u64 r.job, .int .i64 r.n] 39) = W0 at *
  refine (refRuleMay_any r _).mono ?_
  cases hr : Fi.may r with
  | false =>
    rintro e w4 ⟨rfl, hc⟩
    have HR := Lib.hid hr
    clear hr
    go_wp2_with fail
    go_ret
    exact ⟨ret_bool (by rw [HA.out, HR.out]; rfl), hB ▸ (hbr.trans (hc.mono (by have := R.lt; omega)))⟩
  | true =>
    rintro e w4 ⟨rfl, hc⟩
    have hm := (Fi.may_iff r).1 hr
    obtain ⟨m1, m2, m3, m4⟩ := hm
    replace hbr := hbr.trans (hc.mono (by have := R.lt; omega))
    replace R := R.keep hc
    rw [hr, if_pos rfl] at HA
    clear hc hr
    go_wp2_with fail
    go_loopw [7, 8, 9, 10, 11] (fun la op st qu ii wr => ∃ k : Nat, ii = .int .i64 k ∧ k ≤ l.length ∧ la = .bool ((Fi.own r.job (l.take k)).any (Fi.late r.n now)) ∧ op = .int .i64 ((Fi.sum (Fi.own r.job (l.take k))).due + (Fi.sum (Fi.own r.job (l.take k))).run) ∧ st = .int .i64 (Fi.sum (Fi.own r.job (l.take k))).streak ∧ qu = .bool (!(Fi.own r.job (l.take k)).any (Fi.loud r.n now)) ∧ RuleAt wr 39 b r ∧ Below b w wr) (fun _ _ _ _ ii _ => l.length - (intOf ii).toNat)
    case atStart => exact ⟨0, rfl, Nat.zero_le _, by simp [Fi.own], by simp [Fi.own, Fi.sum], by simp [Fi.own, Fi.sum], by simp [Fi.own], R, hbr⟩
    case round =>
      clear R hbr
      obtain ⟨k, rfl, hk, rfl, rfl, rfl, rfl, R, hbr⟩ := hrel
      by_cases hlt : k < l.length
      · have hlt' : (k : Int) < (l.length : Int) := by omega
        obtain ⟨bl, off, rfl, hbl, hca⟩ := Fires.at (hl.keep (hB ▸ hbr)) (by omega)
        obtain ⟨c0, c1, c2, c3, c4, c5, c6⟩ := hca k hlt
        have hol := Fi.own_len r.job (l.take k)
        have htl : (l.take k).length = k := by rw [List.length_take]; omega
        obtain ⟨e0, e1, e2, e3, e4, e5⟩ := Fi.sum_bd (Fi.own r.job (l.take k))
        have hin := Fi.own_snoc_in r.job (l.take k) l[k]
        have hout := Fi.own_snoc_out r.job (l.take k) l[k]
        rw [← Fi.take_snoc l k hlt] at hin hout
        have hxI := hf _ (List.getElem_mem hlt)
        generalize l[k] = x at *
        have hX := FireAt.new wr x
        have hal := Below.al (Below.refl wr.heap.size wr) (.cells #[.int .u64 x.job, .int .i64 x.at', .int .i64 x.state, .int .i64 x.att, .int .u64 x.tok, .int .u64 x.wk, .int .i64 x.til] 58)
        have hRl := R.lt
        replace R := R.keep hal
        replace hbr := hbr.trans (hal.mono (by omega))
        obtain ⟨q0, q1, q2⟩ := R.facts
        clear hca hal
        have hA := refAhead_any x now r.n m3 m4 hxI hnow
        have hla : Fi.late r.n now x = (decide (x.state = 1) && Fi.ahead r.n now x) := rfl
        have hlo : Fi.loud r.n now x = (decide (x.state = 3) && !Fi.ahead r.n now x) := rfl
        generalize Fi.own r.job (l.take k) = m at *
        by_cases hj : x.job = r.job
        · have hjb : (x.job != r.job) = false := by simp [hj]
          have ha := Fi.any_snoc (Fi.late r.n now) m x
          have hq := Fi.any_snoc (Fi.loud r.n now) m x
          have hs := Fi.sum_snoc m x
          rw [hla] at ha
          rw [hlo] at hq
          rw [← hin hj] at ha hq hs
          obtain ⟨M', hM'⟩ : ∃ M', M' = Fi.own r.job (l.take (k + 1)) := ⟨_, rfl⟩
          rw [← hM'] at ha hq hs
          clear hin hout hj hla hlo
          generalize Fi.sum m = sm at *
          generalize Fi.ahead r.n now x = A at *
          generalize hLa : m.any (Fi.late r.n now) = La at *
          generalize hQu : m.any (Fi.loud r.n now) = Qu at *
          have HM := Lib.hid hM'
          clear hM' hLa hQu
          by_cases q1 : x.state = 1
          · skip
            have hst := step1 sm x q1
            have b1 : (x.state == 1) = true := by simp [q1]
            have HP := Lib.hid (And.intro (show decide (x.state = 1) = true from by simp; omega) (show decide (x.state = 3) = false from by simp; omega))
            have HST := Lib.hid hst
            have HE := Lib.hid (And.intro ha (And.intro hq hs))
            clear hst ha hq hs q1
            cases La with
            | true =>
              go_wp2_with fail
              exact ⟨⟨k + 1, by go_num, by omega, by rw [← HM.out, HE.out.1]; simp [HP.out], by rw [← HM.out, HE.out.2.2, HST.out]; go_num, by rw [← HM.out, HE.out.2.2, HST.out], by rw [← HM.out, HE.out.2.1]; simp [HP.out], R, hbr⟩, by simp [intOf]; omega⟩
            | false =>
              go_wp2_with fail
              refine (hA _).mono ?_
              rintro e w5 ⟨rfl, rfl⟩
              go_wp2_with fail
              exact ⟨⟨k + 1, by go_num, by omega, by rw [← HM.out, HE.out.1]; simp [HP.out], by rw [← HM.out, HE.out.2.2, HST.out]; go_num, by rw [← HM.out, HE.out.2.2, HST.out], by rw [← HM.out, HE.out.2.1]; simp [HP.out], R, hbr⟩, by simp [intOf]; omega⟩
          by_cases q2 : x.state = 2
          · skip
            have hst := step2 sm x q2
            have b1 : (x.state == 1) = false := beq_false_of_ne (by omega)
            have b2 : (x.state == 2) = true := by simp [q2]
            have HP := Lib.hid (And.intro (show decide (x.state = 1) = false from by simp; omega) (show decide (x.state = 3) = false from by simp; omega))
            have HST := Lib.hid hst
            have HE := Lib.hid (And.intro ha (And.intro hq hs))
            clear hst ha hq hs q1 q2
            clear hA
            go_wp2_with fail
            exact ⟨⟨k + 1, by go_num, by omega, by rw [← HM.out, HE.out.1]; simp [HP.out], by rw [← HM.out, HE.out.2.2, HST.out]; go_num, by rw [← HM.out, HE.out.2.2, HST.out], by rw [← HM.out, HE.out.2.1]; simp [HP.out], R, hbr⟩, by simp [intOf]; omega⟩
          by_cases q3 : x.state = 3
          · skip
            have hst := step3 sm x q3
            have b1 : (x.state == 1) = false := beq_false_of_ne (by omega)
            have b2 : (x.state == 2) = false := beq_false_of_ne (by omega)
            have b3 : (x.state == 3) = true := by simp [q3]
            have HP := Lib.hid (And.intro (show decide (x.state = 1) = false from by simp; omega) (show decide (x.state = 3) = true from by simp; omega))
            have HST := Lib.hid hst
            have HE := Lib.hid (And.intro ha (And.intro hq hs))
            clear hst ha hq hs q1 q2 q3
            cases Qu with
            | true =>
              go_wp2_with fail
              exact ⟨⟨k + 1, by go_num, by omega, by rw [← HM.out, HE.out.1]; simp [HP.out], by rw [← HM.out, HE.out.2.2, HST.out]; skip, by rw [← HM.out, HE.out.2.2, HST.out], by rw [← HM.out, HE.out.2.1]; simp [HP.out], R, hbr⟩, by simp [intOf]; omega⟩
            | false =>
              go_wp2_with fail
              refine (hA _).mono ?_
              rintro e w5 ⟨rfl, rfl⟩
              go_wp2_with fail
              exact ⟨⟨k + 1, by go_num, by omega, by rw [← HM.out, HE.out.1]; simp [HP.out], by rw [← HM.out, HE.out.2.2, HST.out]; skip, by rw [← HM.out, HE.out.2.2, HST.out], by rw [← HM.out, HE.out.2.1]; simp [HP.out], R, hbr⟩, by simp [intOf]; omega⟩
          by_cases q4 : x.state = 4
          · skip
            have hst := step4 sm x q4
            have b1 : (x.state == 1) = false := beq_false_of_ne (by omega)
            have b2 : (x.state == 2) = false := beq_false_of_ne (by omega)
            have b3 : (x.state == 3) = false := beq_false_of_ne (by omega)
            have b4 : (x.state == 4) = true := by simp [q4]
            have HP := Lib.hid (And.intro (show decide (x.state = 1) = false from by simp; omega) (show decide (x.state = 3) = false from by simp; omega))
            have HST := Lib.hid hst
            have HE := Lib.hid (And.intro ha (And.intro hq hs))
            clear hst ha hq hs q1 q2 q3 q4
            clear hA
            go_wp2_with fail
            exact ⟨⟨k + 1, by go_num, by omega, by rw [← HM.out, HE.out.1]; simp [HP.out], by rw [← HM.out, HE.out.2.2, HST.out]; skip, by rw [← HM.out, HE.out.2.2, HST.out], by rw [← HM.out, HE.out.2.1]; simp [HP.out], R, hbr⟩, by simp [intOf]; omega⟩
          have hst := step5 sm x q1 q2 q3 q4
          have b1 : (x.state == 1) = false := beq_false_of_ne (by omega)
          have b2 : (x.state == 2) = false := beq_false_of_ne (by omega)
          have b3 : (x.state == 3) = false := beq_false_of_ne (by omega)
          have b4 : (x.state == 4) = false := beq_false_of_ne (by omega)
          have HP := Lib.hid (And.intro (show decide (x.state = 1) = false from by simp; omega) (show decide (x.state = 3) = false from by simp; omega))
          have HST := Lib.hid hst
          have HE := Lib.hid (And.intro ha (And.intro hq hs))
          clear hst ha hq hs q1 q2 q3 q4
          clear hA
          go_wp2_with fail
          exact ⟨⟨k + 1, by go_num, by omega, by rw [← HM.out, HE.out.1]; simp [HP.out], by rw [← HM.out, HE.out.2.2, HST.out]; skip, by rw [← HM.out, HE.out.2.2, HST.out], by rw [← HM.out, HE.out.2.1]; simp [HP.out], R, hbr⟩, by simp [intOf]; omega⟩
        · have hjb : (x.job != r.job) = true := by simp [hj]
          have HO := Lib.hid (hout hj)
          clear hin hout hj hla hlo hA
          go_wp2_with fail
          exact ⟨⟨k + 1, by go_num, by omega, by rw [HO.out], by rw [HO.out], by rw [HO.out], by rw [HO.out], R, hbr⟩, by simp [intOf]; omega⟩
      · obtain rfl : k = l.length := by omega
        rw [List.take_length]
        obtain ⟨q0, q1, q2⟩ := R.facts
        rcases (show r.kind = 1 ∨ r.kind = 2 ∨ r.kind = 3 ∨ r.kind = 4 by omega) with k1 | k1 | k1 | k1
        · have b1 : (r.kind == 1) = true := by simp [k1]
          rw [if_pos k1] at HA
          clear k1
          generalize (Fi.own r.job l).any (Fi.late r.n now) = q at *
          go_wp2_with fail
          go_ret
          exact ⟨ret_bool HA.out.symm, hB ▸ hbr⟩
        · have b1 : (r.kind == 1) = false := by simp [k1]
          have b2 : (r.kind == 2) = true := by simp [k1]
          rw [if_neg (by omega), if_pos k1] at HA
          clear k1
          generalize Fi.sum (Fi.own r.job l) = q at *
          go_wp2_with fail
          go_ret
          exact ⟨ret_bool HA.out.symm, hB ▸ hbr⟩
        · have b1 : (r.kind == 1) = false := by simp [k1]
          have b2 : (r.kind == 2) = false := by simp [k1]
          have b3 : (r.kind == 3) = true := by simp [k1]
          rw [if_neg (by omega), if_neg (by omega), if_pos k1] at HA
          clear k1
          generalize Fi.sum (Fi.own r.job l) = q at *
          go_wp2_with fail
          go_ret
          exact ⟨ret_bool HA.out.symm, hB ▸ hbr⟩
        · have b1 : (r.kind == 1) = false := by simp [k1]
          have b2 : (r.kind == 2) = false := by simp [k1]
          have b3 : (r.kind == 3) = false := by simp [k1]
          rw [if_neg (by omega), if_neg (by omega), if_neg (by omega)] at HA
          clear k1
          generalize (Fi.own r.job l).any (Fi.loud r.n now) = q at *
          go_wp2_with fail
          go_ret
          exact ⟨ret_bool HA.out.symm, hB ▸ hbr⟩
end Go.Proofs.Ytaepkmjlkenenaa
