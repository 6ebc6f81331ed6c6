import Derived.Test.YtaepkmjlkenenaaF2
import Derived.Laws.EntriesVeiled
namespace Go.Proofs.Ytaepkmjlkenenaa
open Go.RowKit

theorem Try.info58 : (Try.prog.info? 58).map (fun i => (i.zero, i.size, i.bytes)) = some (some (.agg #[.int .u64 0, .int .i64 0, .int .i64 0, .int .i64 0, .int .u64 0, .int .u64 0, .int .i64 0]), 7, 56) := by kernel_rfl
theorem fire_one (f : Fi.Fire) : ∀ u ∈ fireC f, u.oneCell' = true := by
  intro u hu
  simp only [fireC, List.mem_cons, List.not_mem_nil, or_false] at hu
  rcases hu with rfl | rfl | rfl | rfl | rfl | rfl | rfl <;> rfl
/-- the call's own row of firings -/
def OwnF (N : Nat) (w : World) (v : Value) (l : List Fi.Fire) : Prop := w.ownsRow N 58 7 v l.length (l.flatMap fireC)
theorem OwnF.fires {N : Nat} {w : World} {v : Value} {l : List Fi.Fire} (h : OwnF N w v l) : Fires w v l := Row.own fireC_len h (by omega)

set_option maxRecDepth 100000 in
set_option maxHeartbeats 4000000 in
theorem amiss_any (r : Fi.Rule) (l : List Fi.Fire) (v : Value) (now : Int) (hf : ∀ f ∈ l, Fi.I64 f.at') (hnow : Fi.I64 now) (hn : l.length ≤ 1000000) (w : World) (hl : Fires w v l) :
    Calls Try.prog 15 #[ruleV r, v, .int .i64 now] w fun e w' => e = .returned (.bool (Fi.amiss r l now)) ∧ Below w.heap.size w w' := by
  obtain ⟨ao, cap, rfl, h1, h2, h3⟩ := hl.form
  have R := (RuleAt.new w 34 r w.heap.size rfl).keep (Below.al (Below.refl _ _) (.cells #[.int .i64 now] 2))
  have M := NumAt.mk (w.alloc (.cells #[.int .u8 r.kind, .int .u64 r.job, .int .i64 r.n] 34)) 2 (.int .i64 now) (w.heap.size + 1) (by simp)
  have hb0 := Below.al (Below.al (Below.refl w.heap.size w) (.cells #[.int .u8 r.kind, .int .u64 r.job, .int .i64 r.n] 34)) (.cells #[.int .i64 now] 2)
  obtain ⟨b, hB⟩ : ∃ b, w.heap.size = b := ⟨_, rfl⟩
  unfold ruleV
  go_enter Try.func15, Try.ntmps15
  go_wp2_with fail
  rw [hB] at R M hb0
  generalize (w.alloc (.cells #[.int .u8 r.kind, .int .u64 r.job, .int .i64 r.n] 34)).alloc (.cells #[.int .i64 now] 2) = W0 at *
  go_loopw [7, 14] (fun vv ii wr => ∃ (k : Nat) (v : Value), v = vv ∧ ii = .int .i64 k ∧ k ≤ l.length ∧ RuleAt wr 34 b r ∧ NumAt wr (b + 1) 2 (.int .i64 now) ∧ OwnF (b + 1 + 1) wr v (Fi.own r.job (l.take k)) ∧ Below b w wr) (fun _ ii _ => l.length - (intOf ii).toNat)
  case atStart => exact ⟨0, _, rfl, rfl, Nat.zero_le _, R, M, by unfold OwnF; simpa [Fi.own] using World.ownsRow_nil W0 (b + 1 + 1) 58 7, hb0⟩
  case round =>
    clear R M hb0
    obtain ⟨k, v, rfl, rfl, hk, R, M, O, hbr⟩ := hrel
    by_cases hlt : k < l.length
    · have hlt' : (k : Int) < (l.length : Int) := by omega
      obtain ⟨bl, off, rfl, hbl, hca⟩ := Fires.at (hl.keep (hB ▸ hbr)) (by omega)
      obtain ⟨c0, c1, c2, c3, c4, c5, c6⟩ := hca k hlt
      have hol := Fi.own_len r.job (l.take k)
      have htl : (l.take k).length = k := by rw [List.length_take]; omega
      have hin := Fi.own_snoc_in r.job (l.take k) l[k]
      have hout := Fi.own_snoc_out r.job (l.take k) l[k]
      rw [← Fi.take_snoc l k hlt] at hin hout
      generalize l[k] = x at *
      have hX := FireAt.new wr x
      have hal := Below.al (Below.refl wr.heap.size wr) (.cells #[.int .u64 x.job, .int .i64 x.at', .int .i64 x.state, .int .i64 x.att, .int .u64 x.tok, .int .u64 x.wk, .int .i64 x.til] 58)
      have hMl := M.lt
      have R2 := R.keep hal
      have M2 := M.keep hal
      have O2 : OwnF (b + 1 + 1) (wr.alloc (.cells #[.int .u64 x.job, .int .i64 x.at', .int .i64 x.state, .int .i64 x.att, .int .u64 x.tok, .int .u64 x.wk, .int .i64 x.til] 58)) v (Fi.own r.job (l.take k)) := ownN_keepAt O (fun j hj => hal.block j (World.ownsRow.lt O j hj).2)
      have hb2 := hbr.trans (hal.mono (by omega))
      obtain ⟨q0, q1, q2⟩ := R2.facts
      have hz : b + 1 + 1 ≤ (wr.alloc (.cells #[.int .u64 x.job, .int .i64 x.at', .int .i64 x.state, .int .i64 x.att, .int .u64 x.tok, .int .u64 x.wk, .int .i64 x.til] 58)).heap.size := by simp; omega
      clear hca
      by_cases hj : x.job = r.job
      · have hjb : (x.job == r.job) = true := by simp [hj]
        have HO := Lib.hid (hin hj)
        clear hin hout hj O
        go_wp2_with (at_builtin; refine wpList_appS (wr.alloc (.cells #[.int .u64 x.job, .int .i64 x.at', .int .i64 x.state, .int .i64 x.att, .int .u64 x.tok, .int .u64 x.wk, .int .i64 x.til] 58)) rfl _ _ 35 rfl (b + 1 + 1) 58 _ 7 56 Try.underlying35 Try.info58 (by decide) rfl (by decide) O2 (fireC x) rfl rfl (by simp; rfl) (fire_one x) (by omega) hz ?_; intro v' w' hown' hbel')
        refine ⟨⟨k + 1, v', rfl, by go_num, by omega, ?_, M2.keepAt hbel' (by omega), ?_, hb2.trans (hbel'.mono (by omega))⟩, by simp [intOf]; omega⟩
        · unfold RuleAt; rw [hbel'.block b (by omega)]; exact R2
        · unfold OwnF
          rw [HO.out, List.flatMap_append, List.length_append]
          simpa using hown'
      · have hjb : (x.job == r.job) = false := beq_false_of_ne hj
        have HO := Lib.hid (hout hj)
        clear hin hout hj O
        go_wp2_with fail
        exact ⟨⟨k + 1, v, rfl, by go_num, by omega, R2, M2, by rw [HO.out]; exact O2, hb2⟩, by simp [intOf]; omega⟩
    · obtain rfl : k = l.length := by omega
      rw [List.take_length] at O
      have hF := O.fires
      obtain ⟨oo, oc, rfl, -, -, -⟩ := hF.form
      clear O
      go_wp2_with fail
      have hol := Fi.own_len r.job l
      have hof : ∀ f ∈ Fi.own r.job l, Fi.I64 f.at' := fun f hh => hf f (List.mem_filter.1 hh).1
      obtain ⟨e0, e1, e2, e3, e4, e5⟩ := Fi.sum_bd (Fi.own r.job l)
      have hA : Fi.amiss r l now = (if Fi.may r = true then (if r.kind = 1 then (Fi.own r.job l).any (Fi.late r.n now) else if r.kind = 2 then decide (r.n ≤ (Fi.sum (Fi.own r.job l)).streak) else if r.kind = 3 then decide (r.n ≤ (Fi.sum (Fi.own r.job l)).due + (Fi.sum (Fi.own r.job l)).run) else !(Fi.own r.job l).any (Fi.loud r.n now)) else false) := rfl
      have HA := Lib.hid hA
      clear hA
      refine (of_any _ _ _ hF (by omega)).mono ?_
      rintro e w3 ⟨x2, x3, x4, x5, x6, x7, rfl, hc⟩
      generalize Fi.sum (Fi.own r.job l) = sm at *
      have hRl := M.lt
      replace hbr := hbr.trans (hc.mono (by omega))
      replace R := R.keep hc
      replace M := M.keep hc
      replace hF := hF.keep hc
      have hM3 := M.lt
      have hal := Below.al (Below.al (Below.refl w3.heap.size w3) (.cells #[.int .i64 sm.due, .int .i64 sm.run, .int .i64 x2, .int .i64 x3, .int .i64 x4, .int .i64 x5, .int .i64 x6, .int .i64 x7, .int .i64 sm.streak] 77)) (.cells #[.func (.func 36) #[] #[.pointer (some ⟨b + 1, 0, none⟩), .pointer (some ⟨b, 0, none⟩)]] 60)
      have S : SumAt ((w3.alloc (.cells #[.int .i64 sm.due, .int .i64 sm.run, .int .i64 x2, .int .i64 x3, .int .i64 x4, .int .i64 x5, .int .i64 x6, .int .i64 x7, .int .i64 sm.streak] 77)).alloc (.cells #[.func (.func 36) #[] #[.pointer (some ⟨b + 1, 0, none⟩), .pointer (some ⟨b, 0, none⟩)]] 60)) w3.heap.size sm x2 x3 x4 x5 x6 x7 := SumAt.keep (by unfold SumAt World.alloc; simp) (Below.al (Below.refl _ _) _)
      have C := NumAt.mk (w3.alloc (.cells #[.int .i64 sm.due, .int .i64 sm.run, .int .i64 x2, .int .i64 x3, .int .i64 x4, .int .i64 x5, .int .i64 x6, .int .i64 x7, .int .i64 sm.streak] 77)) 60 (.func (.func 36) #[] #[.pointer (some ⟨b + 1, 0, none⟩), .pointer (some ⟨b, 0, none⟩)]) (w3.heap.size + 1) (by simp)
      replace hbr := hbr.trans (hal.mono (by omega))
      replace R := R.keep hal
      replace M := M.keep hal
      replace hF := hF.keep hal
      obtain ⟨q0, q1, q2⟩ := R.facts
      clear hc hal
      go_wp2_with fail
      clear q0 q1 q2
      generalize (w3.alloc (.cells #[.int .i64 sm.due, .int .i64 sm.run, .int .i64 x2, .int .i64 x3, .int .i64 x4, .int .i64 x5, .int .i64 x6, .int .i64 x7, .int .i64 sm.streak] 77)).alloc (.cells #[.func (.func 36) #[] #[.pointer (some ⟨b + 1, 0, none⟩), .pointer (some ⟨b, 0, none⟩)]] 60) = W3 at *
      generalize w3.heap.size = bs at *
      refine (ruleMay_any r _).mono ?_
      cases hr : Fi.may r with
      | false =>
        rintro e w4 ⟨rfl, hc⟩
        have HR := Lib.hid hr
        clear hr
        go_wp2_with fail
        go_ret
        exact ⟨ret_bool (by rw [HA.out, HR.out]; rfl), hB ▸ (hbr.trans (hc.mono (by have := M.lt; omega)))⟩
      | true =>
        rintro e w4 ⟨rfl, hc⟩
        have hm := (Fi.may_iff r).1 hr
        obtain ⟨m1, m2, m3, m4⟩ := hm
        have hMl := M.lt
        replace hbr := hbr.trans (hc.mono (by omega))
        replace R := R.keep hc
        replace M := M.keep hc
        replace hF := hF.keep hc
        replace S := S.keep hc
        replace C := C.keep hc
        rw [hr, if_pos rfl] at HA
        clear hc hr
        obtain ⟨q0, q1, q2⟩ := R.facts
        obtain ⟨s0, s1, s2, s3, s4, s5, s6, s7, s8⟩ := S.facts
        have hCl : Clo w4 (bs + 1) (b + 1) b r now := ⟨C, M, R⟩
        have hb4 : b + 1 < w4.heap.size := M.lt
        rcases (show r.kind = 1 ∨ r.kind = 2 ∨ r.kind = 3 ∨ r.kind = 4 by omega) with k1 | k1 | k1 | k1
        · have b1 : (r.kind == 1) = true := by simp [k1]
          rw [if_pos k1] at HA
          clear k1
          go_wp2_with fail
          refine (contains_late _ _ r now m3 m4 hof hnow (by omega) (bs + 1) (b + 1) b _ hF hCl).mono ?_
          rintro e w5 ⟨rfl, hc⟩
          go_wp2_with fail
          go_ret
          exact ⟨ret_bool HA.out.symm, hB ▸ (hbr.trans (hc.mono (by omega)))⟩
        · have b1 : (r.kind == 1) = false := by simp [k1]
          have b2 : (r.kind == 2) = true := by simp [k1]
          rw [if_neg (by omega), if_pos k1] at HA
          clear k1
          go_wp2_with fail
          go_ret
          exact ⟨ret_bool HA.out.symm, hB ▸ hbr⟩
        · have b1 : (r.kind == 1) = false := by simp [k1]
          have b2 : (r.kind == 2) = false := by simp [k1]
          have b3 : (r.kind == 3) = true := by simp [k1]
          rw [if_neg (by omega), if_neg (by omega), if_pos k1] at HA
          clear k1
          go_wp2_with fail
          go_ret
          exact ⟨ret_bool HA.out.symm, hB ▸ hbr⟩
        · have b1 : (r.kind == 1) = false := by simp [k1]
          have b2 : (r.kind == 2) = false := by simp [k1]
          have b3 : (r.kind == 3) = false := by simp [k1]
          rw [if_neg (by omega), if_neg (by omega), if_neg (by omega)] at HA
          clear k1
          go_wp2_with fail
          refine (contains_loud _ _ r now m3 m4 hof hnow (by omega) (bs + 1) (b + 1) b _ hF hCl).mono ?_
          rintro e w5 ⟨rfl, hc⟩
          go_wp2_with fail
          go_ret
          exact ⟨ret_bool HA.out.symm, hB ▸ (hbr.trans (hc.mono (by omega)))⟩
end Go.Proofs.Ytaepkmjlkenenaa
