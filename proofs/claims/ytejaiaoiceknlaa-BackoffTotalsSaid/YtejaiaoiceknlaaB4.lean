import Derived.Test.YtejaiaoiceknlaaB3
import Derived.Test.YtejaiaoiceknlaaRf
import Derived.Test.YtejaiaoiceknlaaBo2
namespace Go.Proofs.Ytejaiaoiceknlaa
open Go.RowKit Go.Shelf
attribute [local go_sem] Oper.semAt_some

def waitV (p : Bo.Plan) (key n : Int) : Int := if badN p n = 0 then Bo.wait p key n (Bo.full p n.toNat) else 0
set_option maxRecDepth 100000 in
theorem waitN_any (p : Bo.Plan) (key n : Int) (w : World) : Calls Try.prog 16 #[planV p, .int .u64 key, .int .i64 n] w fun e w' => e = .returned (.tuple #[.int .i64 (waitV p key n), .int .i64 (badN p n)]) ∧ Below w.heap.size w w' := by
  obtain ⟨b, hb⟩ : ∃ b, badN p n = b := ⟨_, rfl⟩
  obtain ⟨f, hf⟩ : ∃ f, waitV p key n = f := ⟨_, rfl⟩
  have hfull := full_any p n
  rw [hf, hb]
  rw [hb] at hfull
  by_cases h0 : b = 0
  · obtain ⟨hp, h1, h2⟩ := (bad_0 p n).1 (hb.trans h0)
    have hv : fullV p n = Bo.full p n.toNat := by unfold fullV; rw [if_pos (hb.trans h0)]
    have hfm : f = Bo.wait p key n (Bo.full p n.toNat) := by rw [← hf]; unfold waitV; rw [if_pos (hb.trans h0)]
    rw [hv] at hfull
    obtain ⟨x0, x1⟩ := Bo.full_bd p hp n.toNat
    have x2 : Bo.full p n.toNat ≤ 604800 := by have := ((Bo.may_iff p).1 hp).2.2.1; omega
    subst h0
    subst hfm
    clear hf hb hv
    generalize Bo.full p n.toNat = x at *
    unfold planV
    go_enter Try.func16, Try.ntmps16
    go_wp2_with fail
    refine (hfull _).mono ?_
    clear hfull
    rintro e w1 ⟨rfl, hc⟩
    have hb0 := Below.call (Below.al (Below.refl _ w) (.cells #[.int .i64 p.base, .int .i64 p.cap, .int .i64 p.factor, .int .i64 p.spread, .int .u64 p.seed] 24)) hc
    obtain ⟨c0, c1, c2, c3, c4⟩ := ((PlanAt.new w 24 p).keep hc).facts
    clear hc
    go_wp2_with fail
    refine (wait_any p hp key n x x0 x2 _).mono ?_
    rintro e w2 ⟨rfl, hc⟩
    go_wp2_with fail
    go_ret2
    exact ⟨rfl, Below.call hb0 hc⟩
  · have hf0 : f = 0 := by rw [← hf]; unfold waitV; rw [if_neg (by rw [hb]; exact h0)]
    have hv : fullV p n = 0 := by unfold fullV; rw [if_neg (by rw [hb]; exact h0)]
    rw [hv] at hfull
    subst hf0
    have hbb : (b == 0) = false := beq_false_of_ne h0
    have hbn : (b != 0) = true := by simp [h0]
    clear hf hb h0 hv
    unfold planV
    go_enter Try.func16, Try.ntmps16
    go_wp2_with fail
    refine (hfull _).mono ?_
    clear hfull
    rintro e w1 ⟨rfl, hc⟩
    go_wp2_with fail
    go_ret2
    exact ⟨rfl, Below.call (Below.al (Below.refl _ _) _) hc⟩

/-- what All hands over -/
def allEnc (p : Bo.Plan) (key : Int) (k : Nat) : Array Value := #[.int .i64 ((k : Int) + 1), .int .i64 (Bo.at' p key (k + 1))]
def allN (p : Bo.Plan) : Nat := if Bo.may p = true then 1000 else 0
theorem Off.num {Fr : Nat → Prop} {A B : World} {b : Nat} {t : TypeId} {v : Value} (h : Off Fr A B) (hN : NumAt A b t v) (hf : ¬ Fr b) : NumAt B b t v := by
  unfold NumAt; rw [h.same b hN.lt hf]; exact hN
theorem Off.plan {Fr : Nat → Prop} {A B : World} {b : Nat} {t : TypeId} {p : Bo.Plan} (h : Off Fr A B) (hN : PlanAt A t b p) (hf : ¬ Fr b) : PlanAt B t b p := by
  unfold PlanAt; rw [h.same b hN.lt hf]; exact hN
set_option maxRecDepth 100000 in
set_option maxHeartbeats 1000000 in
theorem all_seq (n : Nat) (hn : 1 ≤ n) (p : Bo.Plan) (key : Int) (hU : Bo.U key) (Bp Bk : Nat) (Fr : Nat → Prop) (w : World) (hfp : ¬ Fr Bp) (hfk : ¬ Fr Bk) (hP : PlanAt w 24 Bp p) (hK : NumAt w Bk 22 (.int .u64 key)) :
    SeqN Fence.wide n Try.prog 21 #[.pointer (some ⟨Bp, 0, none⟩), .pointer (some ⟨Bk, 0, none⟩)] (allEnc p key) (allN p) Fr w := fun l J Jx W Fr' hW hFr hJ hJx hY h0 => by
  have hfp' : ¬ Fr' Bp := fun h => (hFr _ h).1.elim hfp (fun h => by have := hP.lt; omega)
  have hfk' : ¬ Fr' Bk := fun h => (hFr _ h).1.elim hfk (fun h => by have := hK.lt; omega)
  have hP1 := hP.keep hW
  have hK1 := hK.keep hW
  clear hP hK hfp hfk
  obtain ⟨c0, c1, c2, c3, c4⟩ := hP1.facts
  refine callsIn_of_wp Try.func21 rfl trivial ?_ rfl
  simp only [Try.ntmps21, List.size_toArray, List.length_cons, List.length_nil, Nat.reduceAdd, Nat.reduceSub, Array.replicate_succ, Array.replicate_zero, List.push_toArray, List.append_toArray, List.nil_append, List.cons_append]
  cases hp : Bo.may p with
  | false =>
    have hN0 : allN p = 0 := by unfold allN; rw [hp]; rfl
    rw [hN0]
    have hm := may_any p
    rw [hp] at hm
    clear hp
    gi_wp2_with (refine ⟨trivial, ?_⟩; gi_at_call 15; refine (callsIn_wide.2 (hm _)).mono ?_; rintro e w1 ⟨rfl, hc⟩)
    refine bodyPost_ret (results_none rfl _ _ _) rfl ?_
    exact ⟨⟨_, rfl⟩, .inl (hJ _ _ _ h0 hc)⟩
  | true =>
    have hN0 : allN p = 1000 := by unfold allN; rw [hp]; rfl
    rw [hN0] at hY ⊢
    have hm := may_any p
    rw [hp] at hm
    gi_wp2_with (refine ⟨trivial, ?_⟩; gi_at_call 15; refine (callsIn_wide.2 (hm _)).mono ?_; rintro e w1 ⟨rfl, hc⟩; obtain ⟨d0, d1, d2, d3, d4⟩ := (hP1.keep hc).facts)
    gi_wp2_with (refine ⟨trivial, ?_⟩; gi_at_call 22; refine (callsIn_wide.2 (fulls_at p _)).mono ?_; rintro e w2 ⟨bw, bp, hne, hbw, hbp, rfl, hN, hP2, hc2⟩)
    have hJ0 := hJ _ _ _ h0 (Below.call hc hc2)
    have hz : W.heap.size ≤ w2.heap.size := (Below.call hc hc2).size
    replace hbw : W.heap.size ≤ bw := Nat.le_trans hc.size hbw
    replace hbp : W.heap.size ≤ bp := Nat.le_trans hc.size hbp
    have hPP := hP1.keep (Below.call hc hc2)
    have hKK := hK1.keep (Below.call hc hc2)
    have hfw : ¬ Fr' bw := fun h => by have := (hFr _ h).2; omega
    have hfb : ¬ Fr' bp := fun h => by have := (hFr _ h).2; omega
    have hlp := hP1.lt
    have hlk := hK1.lt
    have hnp : Bp ≠ bw := by omega
    have hnk : Bk ≠ bw := by omega
    clear hc hc2 c0 c1 c2 c3 c4 d0 d1 d2 d3 d4 h0 hP1 hK1 hm hFr hN0
    gi_loopw [5, 6] (fun x i wr => ∃ k : Nat, k ≤ 1000 ∧ i = .int .i64 ((k : Int) + 1) ∧ x = .int .i64 (Bo.at' p key k) ∧ J k wr ∧ W.heap.size ≤ wr.heap.size ∧ NumAt wr bw 2 (.int .i64 (Bo.full p k)) ∧ PlanAt wr 24 bp p ∧ PlanAt wr 24 Bp p ∧ NumAt wr Bk 22 (.int .u64 key)) (fun _ i _ => 1001 - (intOf i).toNat)
    case atStart => exact ⟨0, by omega, rfl, rfl, hJ0, hz, hN, hP2, hPP, hKK⟩
    case round =>
      clear hJ0 hz hN hP2 hPP hKK
      obtain ⟨k, hk, rfl, rfl, hJk, hzr, hN, hPb, hPP, hKK⟩ := hrel
      by_cases hlt : k < 1000
      · obtain ⟨x0, x1⟩ := Bo.full_bd p hp k
        have hs : Bo.full p (k + 1) = Bo.step p (Bo.full p k) := rfl
        obtain ⟨f, hf⟩ : ∃ f, Bo.step p (Bo.full p k) = f := ⟨_, rfl⟩
        rw [hf] at hs
        have hf1 := Bo.full_pos p hp k
        have hf2 := (Bo.full_bd p hp (k + 1)).2
        rw [hs] at hf1 hf2
        have hf3 : f ≤ 604800 := by have := ((Bo.may_iff p).1 hp).2.2.1; omega
        have hnx := next_any p hp bw bp _ x0 x1 
        rw [hf] at hnx
        have hwt := wait_any p hp key ((k : Int) + 1) f (by omega) hf3
        have hwb := Bo.wait_bd p hp key ((k : Int) + 1) f hf1
        have has := Bo.at_succ p key k
        rw [hs] at has
        have hab := Bo.at_bd p hp key k
        obtain ⟨u, hu⟩ : ∃ u, Bo.wait p key ((k : Int) + 1) f = u := ⟨_, rfl⟩
        rw [hu] at hwt hwb has
        have HS := Lib.hid (And.intro hs has)
        generalize Bo.full p k = x at *
        generalize Bo.at' p key k = y at *
        obtain ⟨u0, u1⟩ := hwb
        obtain ⟨y0, y1⟩ := hab
        have hwu : IntKind.i64.wrap (y + u) = y + u := IntWalk.i64_in _ (by omega)
        obtain ⟨c0, c1, c2, c3, c4⟩ := hPP.facts
        have ck := hKK.cell
        have N2 := hN.set (.int .i64 f)
        have PB2 := hPb.other ⟨bw, 0, none⟩ (Ne.symm hne) (.int .i64 f)
        have PP2 := hPP.other ⟨bw, 0, none⟩ hnp (.int .i64 f)
        have KK2 := hKK.other ⟨bw, 0, none⟩ hnk (.int .i64 f)
        obtain ⟨e0, e1, e2, e3, e4⟩ := PP2.facts
        have ek := KK2.cell
        have hfin : ∀ w3, Below (wr.setCell ⟨bw, 0, none⟩ (.int .i64 f)).drew.heap.size (wr.setCell ⟨bw, 0, none⟩ (.int .i64 f)).drew w3 →
            J k w3 ∧ W.heap.size ≤ w3.heap.size ∧ NumAt w3 bw 2 (.int .i64 f) ∧ PlanAt w3 24 bp p ∧ PlanAt w3 24 Bp p ∧ NumAt w3 Bk 22 (.int .u64 key) := by
          intro w3 hc
          have hb : Below W.heap.size wr w3 := (((Below.refl _ wr).setCell (p := ⟨bw, 0, none⟩) hbw (.int .i64 f)).drew).trans (hc.mono (by simpa [World.setCell] using hzr))
          exact ⟨hJ _ _ _ hJk hb, Nat.le_trans hzr hb.size, NumAt.keep (w := (wr.setCell ⟨bw, 0, none⟩ (.int .i64 f)).drew) N2 hc, PlanAt.keep (w := (wr.setCell ⟨bw, 0, none⟩ (.int .i64 f)).drew) PB2 hc,
            PlanAt.keep (w := (wr.setCell ⟨bw, 0, none⟩ (.int .i64 f)).drew) PP2 hc, NumAt.keep (w := (wr.setCell ⟨bw, 0, none⟩ (.int .i64 f)).drew) KK2 hc⟩
        have HFIN := Lib.hid hfin
        have henc : allEnc p key k = #[.int .i64 ((k : Int) + 1), .int .i64 (y + u)] := by unfold allEnc; rw [has]
        have hYk := fun w3 h1 h2 => hY k w3 hlt h1 h2
        rw [henc] at hYk
        have HYK := Lib.hid hYk
        clear hfin henc hYk
        have hmx : Try.prog.follows .mixedOrders = true := by kernel_rfl
        clear hs has hf hu hf1 hf2 hf3
        gi_wp2
        gi_region_with_o (first | (refine ⟨trivial, ?_⟩; gi_at_call 25; refine (callsIn_wide.2 (hnx wr.drew hN hPb)).mono ?_; rintro e w3 ⟨rfl, rfl⟩) | (refine ⟨trivial, ?_⟩; gi_at_call 23; refine (callsIn_wide.2 (hwt _)).mono ?_; rintro e w3 ⟨rfl, hc⟩))
        all_goals
          obtain ⟨hJ3, hz3, N3, PB3, PP3, KK3⟩ := HFIN.out w3 hc
          obtain ⟨fn, tmps, assign, body, hy, hR⟩ := HYK.out w3 hJ3 hz3
          clear hc e0 e1 e2 e3 e4 ek c0 c1 c2 c3 c4 ck
          gi_wp2
          refine hR.mono ?_
          rintro e W4 (⟨rfl, hJ4, ho⟩ | ⟨rfl, hx4⟩)
          · have hz4 := Nat.le_trans hz3 ho.size
            have N4 := ho.num N3 hfw
            have PB4 := ho.plan PB3 hfb
            have PP4 := ho.plan PP3 hfp'
            have KK4 := ho.num KK3 hfk'
            clear hy hR
            gi_wp2
            exact ⟨⟨k + 1, by omega, by go_num, by rw [HS.out.2], hJ4, hz4, by rw [HS.out.1]; exact N4, PB4, PP4, KK4⟩, by simp [intOf]; omega⟩
          · clear hy hR
            gi_wp2
            refine bodyPost_ret (results_none rfl _ _ _) rfl ?_
            exact ⟨⟨_, rfl⟩, .inr ⟨k, hlt, hx4⟩⟩
      · obtain rfl : k = 1000 := by omega
        gi_wp2
        go_end0
        exact ⟨⟨_, rfl⟩, .inl hJk⟩
end Go.Proofs.Ytejaiaoiceknlaa
