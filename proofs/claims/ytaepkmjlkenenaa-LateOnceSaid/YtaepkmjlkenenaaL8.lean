import Derived.Test.YtaepkmjlkenenaaL7
import Derived.Test.YtaepkmjlkenenaaK2
import Derived.Test.YtaepkmjlkenenaaLu
namespace Go.Proofs.Ytaepkmjlkenenaa
open Go.RowKit

set_option maxRecDepth 100000 in
set_option maxHeartbeats 4000000 in
theorem once_main (l : Lt.Lot) (vd vc : Value) (w : World) (hD : Ints w vd l.due) (hC : Ints w vc l.come) (hm : Lt.may l = true) :
    Calls Try.prog 3 #[lotV l vd vc] w fun e w' => e = .returned (.bool true) ∧ Below w.heap.size w w' := by
  obtain ⟨h, hr⟩ := (Lt.may_iff l).1 hm
  have hb0 : Below w.heap.size w (w.alloc (.cells #[.int .i64 l.pol, .int .i64 l.grace, .int .i64 l.now, vd, vc, .int .i64 l.room] 24)) := Below.al (Below.refl _ _) _
  have L := LotAt.new w l.pol l.grace l.now l.room vd vc
  have hD1 := hD.keep hb0
  have hC1 := hC.keep hb0
  obtain ⟨ao, ca, rfl, -, -, n1⟩ := hD.form
  obtain ⟨bo, cb, rfl, -, -, n2⟩ := hC.form
  unfold lotV
  generalize hW : w.alloc (.cells #[.int .i64 l.pol, .int .i64 l.grace, .int .i64 l.now, .slice ao l.due.length ca, .slice bo l.come.length cb, .int .i64 l.room] 24) = W at *
  have g1 : ¬ (70 : Int) < (l.due.length : Int) := by omega
  have g2 : ¬ (70 : Int) < (l.come.length : Int) := by omega
  have hsum := Lt.sum_len l
  have hroom := Lt.due_room l hm
  clear hD hC
  go_enter Try.func3, Try.ntmps3
  go_wp2_with fail
  clear hW
  refine (known16_any _).mono ?_
  rintro e w1 ⟨rfl, hc1⟩
  replace L := L.keep hc1 L.lt
  replace hD1 := hD1.keep hc1
  replace hC1 := hC1.keep hc1
  replace hb0 := Below.call hb0 hc1
  obtain ⟨y0, y1, y2, y3, y4, y5⟩ := L.facts
  clear hc1
  go_wp2_with fail
  refine (may_any l _ _ _ hD1 hC1).mono ?_
  rw [hm]
  rintro e w2 ⟨rfl, hc2⟩
  replace L := L.keep hc2 L.lt
  replace hD1 := hD1.keep hc2
  replace hC1 := hC1.keep hc2
  replace hb0 := Below.call hb0 hc2
  clear y0 y1 y2 y3 y4 y5 hc2
  obtain ⟨y0, y1, y2, y3, y4, y5⟩ := L.facts
  go_wp2_with fail
  refine (judge_yes l _ _ _ hD1 hC1 hm).mono ?_
  rintro e w3 ⟨vu, vs, rfl, hU, hS, hc3⟩
  replace L := L.keep hc3 L.lt
  replace hD1 := hD1.keep hc3
  replace hC1 := hC1.keep hc3
  replace hb0 := Below.call hb0 hc3
  clear y0 y1 y2 y3 y4 y5 hc3
  obtain ⟨y0, y1, y2, y3, y4, y5⟩ := L.facts
  obtain ⟨uo, uc, rfl, u1, u2, u3⟩ := hU.form
  obtain ⟨so, sc, rfl, s1, s2, s3⟩ := hS.form
  have q1 : (((Lt.dueOf l).length : Int) + ((Lt.skipOf l).length : Int) != (l.due.length : Int) + (l.come.length : Int)) = false := by simp; omega
  have q2 : ¬ (l.room < ((Lt.dueOf l).length : Int)) := by omega
  obtain ⟨R, hR0, hR⟩ := Lt.round_at l hm
  have hDl := Sli.lie hD1
  have hCl := Sli.lie hC1
  go_wp2_with fail
  have c3 : ∀ w', Below w3.heap.size w3 w' → w'.cell? ⟨w.heap.size, 3, none⟩ = some (.slice ao l.due.length ca) := fun w' h => below_at h y3
  have c4 : ∀ w', Below w3.heap.size w3 w' → w'.cell? ⟨w.heap.size, 4, none⟩ = some (.slice bo l.come.length cb) := fun w' h => below_at h y4
  refine wp_region_held_drew (S := fun w' => Below w3.heap.size w3 w') (by kernel_rfl) (Below.refl _ _).drew (fun h0 => ?_)
  refine wpAnyH_take (i := 1) (oi := { dst := _, op := _, type := _, pos := _, after := _, guard := _ }) (v := ?va1) rfl (by kernel_rfl) (by kernel_rfl) (by kernel_rfl) (fun _ _ _ h => h) (Or.inl ⟨by rfl, ?ya1⟩) (by assumption) ?ra1; (case ya1 => intro w hSw; have d3 := c3 w hSw; have d4 := c4 w hSw; go_simp <;> with_reducible rfl); simp only [Act.put, List.setIfInBounds_toArray, List.set_cons_zero, List.set_cons_succ]
  refine wpAnyH_take (i := 2) (oi := { dst := _, op := _, type := _, pos := _, after := _, guard := _ }) (v := ?va2) rfl (by kernel_rfl) (by kernel_rfl) (by kernel_rfl) (fun _ _ _ h => h) (Or.inl ⟨by rfl, ?ya2⟩) (by assumption) ?ra2; (case ya2 => intro w hSw; have d3 := c3 w hSw; have d4 := c4 w hSw; go_simp <;> with_reducible rfl); simp only [Act.put, List.setIfInBounds_toArray, List.set_cons_zero, List.set_cons_succ]
  refine wpAnyH_take (i := 4) (oi := { dst := _, op := _, type := _, pos := _, after := _, guard := _ }) (v := ?va4) rfl (by kernel_rfl) (by kernel_rfl) (by kernel_rfl) (fun _ _ _ h => h) (Or.inl ⟨by rfl, ?ya4⟩) (by assumption) ?ra4; (case ya4 => intro w hSw; have d3 := c3 w hSw; have d4 := c4 w hSw; go_simp <;> with_reducible rfl); simp only [Act.put, List.setIfInBounds_toArray, List.set_cons_zero, List.set_cons_succ]
  refine wpAnyH_take (i := 5) (oi := { dst := _, op := _, type := _, pos := _, after := _, guard := _ }) (v := ?va5) rfl (by kernel_rfl) (by kernel_rfl) (by kernel_rfl) (fun _ _ _ h => h) (Or.inl ⟨by rfl, ?ya5⟩) (by assumption) ?ra5; (case ya5 => intro w hSw; have d3 := c3 w hSw; have d4 := c4 w hSw; go_simp <;> with_reducible rfl); simp only [Act.put, List.setIfInBounds_toArray, List.set_cons_zero, List.set_cons_succ]
  refine wpAnyH_ready (rs := [0]) (by kernel_rfl) (by simp) ?_
  refine AllReadyH.cons (o := { dst := _, op := _, type := _, pos := _, after := _, guard := _ }) rfl (fun K hK => ?_) AllReadyH.nil
  go_simp
  refine hK.out _ _ (Below.al (Below.refl _ w3) _).drew (fun j1 => ?_)
  clear hK K
  refine wpAnyH_ready (rs := [3]) (by kernel_rfl) (by simp) ?_
  refine AllReadyH.cons (o := { dst := _, op := _, type := _, pos := _, after := _, guard := _ }) rfl (fun K hK => ?_) AllReadyH.nil
  rw [if_pos (show Region.wanted _ _ = true from rfl)]
  have ho0 : (w3.alloc (.cells #[] 2)).ownsRow w3.heap.size 2 1 (.slice (some ⟨w3.heap.size, 0, none⟩) 0 0) 0 [] := World.ownsRow_lit (base := w3.heap.size) w3 #[] 0 (Nat.le_refl _) (by decide) rfl
  refine wp_app _ _ _ 22 rfl w3.heap.size 2 (.int .i64 0) 8 Try.underlying22 Try.info2 (by decide) rfl (World.ownsRow.drew ho0) rfl ao l.due.length ca (l.due.map i64v) rfl n1 (by simp) (hDl.keep j1) (i64_one _) (by omega) j1.size ?_
  intro v4 w4 ho4 _ j2
  replace j2 := j1.trans j2
  simp only [Act.put, List.setIfInBounds_toArray, List.set_cons_zero, List.set_cons_succ]
  refine hK.out _ _ j2 (fun _ => ?_)
  clear hK K j1 ho0
  refine wpAnyH_ready (rs := [6]) (by kernel_rfl) (by simp) ?_
  refine AllReadyH.cons (o := { dst := _, op := _, type := _, pos := _, after := _, guard := _ }) rfl (fun K hK => ?_) AllReadyH.nil
  rw [if_pos (show Region.wanted _ _ = true from rfl)]
  refine wp_app _ _ _ 22 rfl w3.heap.size 2 (.int .i64 0) 8 Try.underlying22 Try.info2 (by decide) rfl ho4 rfl bo l.come.length cb (l.come.map i64v) rfl n2 (by simp) (hCl.keep j2) (i64_one _) (by omega) j2.size ?_
  intro v5 w5 ho5 _ j3
  replace j3 := j2.trans j3
  simp only [Act.put, List.setIfInBounds_toArray, List.set_cons_zero, List.set_cons_succ]
  refine hK.out _ _ j3 (fun _ => ?_)
  clear hK K j2 ho4
  refine wpAnyH_take (i := 7) (oi := { dst := _, op := _, type := _, pos := _, after := _, guard := _ }) (v := ?va7) rfl (by kernel_rfl) (by kernel_rfl) (by kernel_rfl) (fun _ _ _ h => h) (Or.inl ⟨by rfl, ?ya7⟩) (by assumption) ?ra7; (case ya7 => intro w hSw; go_simp <;> with_reducible rfl); simp only [Act.put, List.setIfInBounds_toArray, List.set_cons_zero, List.set_cons_succ]
  refine wpAnyH_done (by kernel_rfl) ?_ _
  have hA : OwnI w3.heap.size w5 v5 (l.due ++ l.come) := by
    unfold OwnI
    simpa using ho5
  have L5 := L.keep j3 L.lt
  have hA5 := hA.ints
  replace hU := hU.keep j3
  replace hS := hS.keep j3
  replace hb0 := Below.call hb0 j3
  clear c3 c4 hDl hCl hD1 hC1 y0 y1 y2 y3 y4 y5 L ho5 hA j3 h0 n1 n2
  have FA := Lt.again_due l hm
  have FM := Lt.again_may l hm
  have FL := Lt.due_last l
  have FS := Lt.skip_none l
  have FO := Lt.due_one l
  obtain ⟨A, hA⟩ : ∃ A, A = l.due ++ l.come := ⟨_, rfl⟩
  obtain ⟨D, hDD⟩ : ∃ D, D = Lt.dueOf l := ⟨_, rfl⟩
  obtain ⟨S, hSS⟩ : ∃ S, S = Lt.skipOf l := ⟨_, rfl⟩
  have hn : A.length = l.due.length + l.come.length := by rw [hA]; simp
  have hlast : ∀ t, l.come.getLast? = some t → A.getD (A.length - 1) 0 = t := by
    intro t ht
    have : A.getLast? = some t := by rw [hA, List.getLast?_append, ht]; rfl
    rw [List.getLast?_eq_getElem?] at this
    rw [List.getD_eq_getElem?_getD, this]; rfl
  have hA64 : A.length ≤ 128 := by omega
  rw [← hA] at hA5 hR
  rw [← hDD] at hU hR q1 q2 u1 hsum hroom FO FA ⊢
  rw [← hSS] at hS hR q1 s1 hsum FS ⊢
  have HA := Lib.hid (And.intro hA (And.intro hDD hSS))
  have FF := Lib.hid (And.intro FA (And.intro FM (And.intro FL (And.intro FS FO))))
  rw [hDD] at FF
  clear hA hDD hSS FA FM FL FS FO
  obtain ⟨ro, rc, rfl, r1, r2, -⟩ := hA5.form
  go_wp2_with fail
  have hn' : (l.due.length : Int) + (l.come.length : Int) = (A.length : Int) := by omega
  rw [hn']
  have HNN := Lib.hid (And.intro hn (And.intro hn' hsum))
  clear hn hn' hsum q1
  go_loopw [8, 9, 10] (fun ii kk tt wr => ∃ i k t : Nat, ii = .int .i64 i ∧ kk = .int .i64 k ∧ tt = .int .i64 t ∧ i + k = t ∧ t ≤ A.length ∧ R i k t ∧ Below w5.heap.size w5 wr) (fun _ _ tt _ => A.length - (intOf tt).toNat)
  case atStart => exact ⟨0, 0, 0, rfl, rfl, rfl, rfl, Nat.zero_le _, hR0, Below.refl _ _⟩
  case round =>
    obtain ⟨i, k, t, rfl, rfl, rfl, hik, htl, hRt, hbr⟩ := hrel
    by_cases hlt : t < A.length
    · have hstep := hR i k t hRt hlt
      replace hU := hU.keep hbr
      replace hS := hS.keep hbr
      replace hA5 := hA5.keep hbr
      obtain ⟨ab, aoff, rfl, hbl, hca⟩ := Ints.at hA5 (by omega)
      have hck := hca t hlt
      clear hR hca
      cases hstep with
      | due h1 h2 h3 =>
        obtain ⟨db, doff, rfl, -, hcd⟩ := Ints.at hU (by omega)
        have hckd := hcd i h1
        rw [h2] at hckd
        clear hcd
        go_wp2_with fail
        go_region
        go_wp2_with fail
        exact ⟨⟨i + 1, k, t + 1, by go_num, rfl, by go_num, by omega, by omega, h3, Below.call hbr (Below.refl _ _).drew⟩, by simp [intOf]; omega⟩
      | skip1 h0 h1 h2 h3 h4 =>
        obtain ⟨db, doff, rfl, -, hcd⟩ := Ints.at hU (by omega)
        have hckd := hcd i h0
        obtain ⟨sb, soff, rfl, -, hcs⟩ := Ints.at hS (by omega)
        have hcks := hcs k h2
        rw [h3] at hcks
        obtain ⟨x, hx⟩ : ∃ x, x = D.getD i 0 := ⟨_, rfl⟩
        obtain ⟨y, hy⟩ : ∃ y, y = A.getD t 0 := ⟨_, rfl⟩
        rw [← hx] at hckd h1
        rw [← hy] at hck hcks h1
        have hxy : (x == y) = false := beq_false_of_ne h1
        clear hcd hcs hx hy h1
        go_wp2_with fail
        go_region
        go_wp2_with fail
        go_region
        go_wp2_with fail
        exact ⟨⟨i, k + 1, t + 1, rfl, by go_num, by go_num, by omega, by omega, h4, Below.call hbr (Below.refl _ _).drew.drew⟩, by simp [intOf]; omega⟩
      | skip2 h0 h2 h3 h4 =>
        obtain ⟨sb, soff, rfl, -, hcs⟩ := Ints.at hS (by omega)
        have hcks := hcs k h2
        rw [h3] at hcks
        have h0' : ¬ (i : Int) < (D.length : Int) := by omega
        clear hcs
        go_wp2_with fail
        go_region
        go_wp2_with fail
        go_region
        go_wp2_with fail
        exact ⟨⟨i, k + 1, t + 1, rfl, by go_num, by go_num, by omega, by omega, h4, Below.call hbr (Below.refl _ _).drew.drew⟩, by simp [intOf]; omega⟩
    · have htA : A.length = t := by omega
      have hA5' : Ints w5 (.slice ro t rc) A := by rw [← htA]; exact hA5
      rw [htA] at r1 hA64 ⊢
      have HTA := Lib.hid htA
      replace L5 := L5.keep hbr L5.lt
      replace hU := hU.keep hbr
      replace hA5 := Sli.keep hA5' hbr
      clear hA5'
      obtain ⟨y0, y1, y2, y3, y4, y5⟩ := L5.facts
      have hx3 := hU
      have hD' := HA.out.2.1
      have M3 : LotAt (wr.setCell ⟨w.heap.size, 3, none⟩ (.slice uo D.length uc)) w.heap.size l.pol l.grace l.now (.slice uo D.length uc) (.slice bo l.come.length cb) l.room := L5.set3 _
      have M4 : LotAt ((wr.setCell ⟨w.heap.size, 3, none⟩ (.slice uo D.length uc)).setCell ⟨w.heap.size, 4, none⟩ (.slice none 0 0)) w.heap.size l.pol l.grace l.now (.slice uo D.length uc) (.slice none 0 0) l.room := M3.set4 _
      have hUU : Ints ((wr.setCell ⟨w.heap.size, 3, none⟩ (.slice uo D.length uc)).setCell ⟨w.heap.size, 4, none⟩ (.slice none 0 0)) (.slice uo D.length uc) (Lt.again l).due := by
        have : (Lt.again l).due = D := hD'.symm
        rw [this]
        refine Sli.set (Sli.set hx3 (a := ⟨w.heap.size, 3, none⟩) y3 ?_ _) M3.facts.2.2.2.2.1 ?_ _ <;> exact fun u hu => by
          obtain ⟨q, _, rfl⟩ := List.mem_map.1 hu
          simp
      have hNN : Ints ((wr.setCell ⟨w.heap.size, 3, none⟩ (.slice uo D.length uc)).setCell ⟨w.heap.size, 4, none⟩ (.slice none 0 0)) (.slice none 0 0) (Lt.again l).come := Sli.nil _
      have hbW : Below w.heap.size w ((wr.setCell ⟨w.heap.size, 3, none⟩ (.slice uo D.length uc)).setCell ⟨w.heap.size, 4, none⟩ (.slice none 0 0)) :=
        Below.setCell (Below.setCell (Below.call hb0 hbr) (p := ⟨w.heap.size, 3, none⟩) (Nat.le_refl _) _) (p := ⟨w.heap.size, 4, none⟩) (Nat.le_refl _) _
      obtain ⟨m0, m1, m2, m3, m4, m5⟩ := M4.facts
      have hpol : ((l.pol == 2) = false ∧ (l.pol == 3) = false) ∨ ((l.pol == 2) = true ∧ (l.pol == 3) = false ∧ ¬ ((t : Int) ≤ l.room)) ∨ ((l.pol == 2) = true ∧ (l.pol == 3) = false ∧ (t : Int) ≤ l.room ∧ S.length = 0) ∨ ((l.pol == 2) = false ∧ (l.pol == 3) = true ∧ ¬ (1 < (D.length : Int))) := by
        have hNN' := HNN.out.2.1
        obtain ⟨-, -, -, hFS, hFO⟩ := FF.out
        rcases (show l.pol = 1 ∨ l.pol = 2 ∨ l.pol = 3 by omega) with hp | hp | hp
        · left; simp [hp]
        · by_cases hq : (t : Int) ≤ l.room
          · right; right; left
            have := hFS hp (by omega)
            simp [hp, hq, this]
          · right; left; simp [hp]; omega
        · right; right; right
          have := hFO hp
          rw [← HA.out.2.1] at this
          simp [hp]; omega
      clear hD'
      clear htA hlt
      by_cases hz : l.come.length = 0
      · have hz' : ¬ (0 < (l.come.length : Int)) := by omega
        by_cases hn0 : 0 < t
        · skip
          replace hb0 := Below.call hb0 (Below.call hbr (Below.refl _ _).drew)
          have z3 : wr.frozen? ⟨w.heap.size, 3, none⟩ = false := L5.froz 3
          have z4 : (wr.setCell ⟨w.heap.size, 3, none⟩ (.slice uo D.length uc)).frozen? ⟨w.heap.size, 4, none⟩ = false := M3.froz 4
          go_wp2_with fail
          go_region
          rcases hpol with ⟨p2, p3⟩ | ⟨p2, p3, pn⟩ | ⟨p2, p3, pn, ps⟩ | ⟨p2, p3, pd⟩
          all_goals try (exfalso; clear hR; omega)
          all_goals
            go_wp2_with fail
            refine (judge_yes (Lt.again l) _ _ _ (Sli.drew hUU) (Sli.drew hNN) FF.out.2.1).mono ?_
            rintro e w7 ⟨va, vn, rfl, hAg, hNo, hc7⟩
            rw [FF.out.1.1] at hAg
            rw [FF.out.1.2] at hNo
            obtain ⟨no, nc, rfl, -, -, -⟩ := hNo.form
            have hU7 := (Sli.drew hUU).keep hc7
            clear hNo
            go_wp2_with fail
            refine (same_eq _ _ (Lt.dueOf l) _ hAg hU7 (by rw [← HA.out.2.1]; omega)).mono ?_
            rintro e w8 ⟨rfl, hc8⟩
            go_wp2_with fail
            go_ret
            exact ⟨rfl, Below.call (Below.call hbW.drew hc7) hc8⟩
        · skip
          replace hb0 := Below.call hb0 (Below.call hbr (Below.refl _ _).drew)
          have z3 : wr.frozen? ⟨w.heap.size, 3, none⟩ = false := L5.froz 3
          have z4 : (wr.setCell ⟨w.heap.size, 3, none⟩ (.slice uo D.length uc)).frozen? ⟨w.heap.size, 4, none⟩ = false := M3.froz 4
          go_wp2_with fail
          go_region
          rcases hpol with ⟨p2, p3⟩ | ⟨p2, p3, pn⟩ | ⟨p2, p3, pn, ps⟩ | ⟨p2, p3, pd⟩
          all_goals try (exfalso; clear hR; omega)
          all_goals
            go_wp2_with fail
            refine (judge_yes (Lt.again l) _ _ _ (Sli.drew hUU) (Sli.drew hNN) FF.out.2.1).mono ?_
            rintro e w7 ⟨va, vn, rfl, hAg, hNo, hc7⟩
            rw [FF.out.1.1] at hAg
            rw [FF.out.1.2] at hNo
            obtain ⟨no, nc, rfl, -, -, -⟩ := hNo.form
            have hU7 := (Sli.drew hUU).keep hc7
            clear hNo
            go_wp2_with fail
            refine (same_eq _ _ (Lt.dueOf l) _ hAg hU7 (by rw [← HA.out.2.1]; omega)).mono ?_
            rintro e w8 ⟨rfl, hc8⟩
            go_wp2_with fail
            go_ret
            exact ⟨rfl, Below.call (Below.call hbW.drew hc7) hc8⟩
      · have hcl : 0 < l.come.length := by omega
        obtain ⟨x, hx⟩ : ∃ x, l.come.getLast? = some x := by
          cases hgl : l.come.getLast? with
          | none => rw [List.getLast?_eq_none_iff] at hgl; rw [hgl] at hcl; cases hcl
          | some x => exact ⟨x, rfl⟩
        have hxA := hlast x hx
        rw [HTA.out] at hxA
        have hn0 : 0 < t := by have := HNN.out.1; have := HTA.out; omega
        obtain ⟨p, hp⟩ : ∃ p : Nat, t = p + 1 := ⟨t - 1, by omega⟩
        have hp1 : (t : Int) - 1 = (p : Int) := by omega
        have hxr : 0 ≤ x ∧ x ≤ l.now := by
          have := ((Lt.rises_iff l.now (l.due ++ l.come) (-1)).1 hr).1 x (by
            have := List.mem_of_getLast? hx
            simp [this])
          omega
        obtain ⟨hx0, hxn⟩ := hxr
        rw [hp, Nat.add_sub_cancel] at hxA
        obtain ⟨ab, aoff, rfl, -, hca⟩ := Ints.at hA5 (by have := HTA.out; omega)
        have hck := hca p (by have := HTA.out; omega)
        rw [hxA] at hck
        have hpt : (p : Int) < (t : Int) := by omega
        have hpt2 : p < t := by omega
        have hwp : IntKind.i64.wrap (p : Int) = (p : Int) := wrap_small _ (by omega) (by omega)
        have hwx : IntKind.i64.wrap (l.now - x) = l.now - x := wrap_small _ (by omega) (by omega)
        clear hca hxA
        have HP := Lib.hid hp
        clear hp
        by_cases hg : l.now - x ≤ l.grace
        · by_cases hro : (l.due.length : Int) < l.room
          · obtain ⟨f1, f2⟩ := FF.out.2.2.1 x hx (by unfold Lt.late; simp; omega) hro
            rw [← HA.out.2.1] at f1 f2
            have hd0 : ((D.length : Int) == 0) = false := beq_false_of_ne (by omega)
            obtain ⟨d, hd⟩ : ∃ d : Nat, D.length = d + 1 := ⟨D.length - 1, by omega⟩
            have hd1 : (D.length : Int) - 1 = (d : Int) := by omega
            have hd2 : d < D.length := by omega
            have hd3 : (d : Int) < (D.length : Int) := by omega
            have hwd : IntKind.i64.wrap (d : Int) = (d : Int) := wrap_small _ (by omega) (by omega)
            obtain ⟨db, doff, rfl, -, hcd⟩ := Ints.at hU f2
            have hckd := hcd d hd2
            have hdx : D.getD d 0 = x := by
              rw [List.getLast?_eq_getElem?, show D.length - 1 = d by omega] at f1
              rw [List.getD_eq_getElem?_getD, f1]; rfl
            rw [hdx] at hckd
            clear hcd hdx f1
            have HD := Lib.hid hd
            clear hd
            replace hb0 := Below.call hb0 (Below.call hbr (Below.refl _ _).drew)
            have z3 : wr.frozen? ⟨w.heap.size, 3, none⟩ = false := L5.froz 3
            have z4 : (wr.setCell ⟨w.heap.size, 3, none⟩ (.slice (some ⟨db, doff, none⟩) D.length uc)).frozen? ⟨w.heap.size, 4, none⟩ = false := M3.froz 4
            go_wp2_with fail
            go_region
            rcases hpol with ⟨p2, p3⟩ | ⟨p2, p3, pn⟩ | ⟨p2, p3, pn, ps⟩ | ⟨p2, p3, pd⟩
            all_goals try (exfalso; clear hR; omega)
            all_goals
              go_wp2_with fail
              refine (judge_yes (Lt.again l) _ _ _ (Sli.drew hUU) (Sli.drew hNN) FF.out.2.1).mono ?_
              rintro e w7 ⟨va, vn, rfl, hAg, hNo, hc7⟩
              rw [FF.out.1.1] at hAg
              rw [FF.out.1.2] at hNo
              obtain ⟨no, nc, rfl, -, -, -⟩ := hNo.form
              have hU7 := (Sli.drew hUU).keep hc7
              clear hNo
              go_wp2_with fail
              refine (same_eq _ _ (Lt.dueOf l) _ hAg hU7 (by rw [← HA.out.2.1]; omega)).mono ?_
              rintro e w8 ⟨rfl, hc8⟩
              go_wp2_with fail
              go_ret
              exact ⟨rfl, Below.call (Below.call hbW.drew hc7) hc8⟩
          · skip
            replace hb0 := Below.call hb0 (Below.call hbr (Below.refl _ _).drew)
            have z3 : wr.frozen? ⟨w.heap.size, 3, none⟩ = false := L5.froz 3
            have z4 : (wr.setCell ⟨w.heap.size, 3, none⟩ (.slice uo D.length uc)).frozen? ⟨w.heap.size, 4, none⟩ = false := M3.froz 4
            go_wp2_with fail
            have hro2 : ¬ (l.due.length : Int) < l.room := by omega
            go_region
            rcases hpol with ⟨p2, p3⟩ | ⟨p2, p3, pn⟩ | ⟨p2, p3, pn, ps⟩ | ⟨p2, p3, pd⟩
            all_goals try (exfalso; clear hR; omega)
            all_goals
              go_wp2_with fail
              refine (judge_yes (Lt.again l) _ _ _ (Sli.drew hUU) (Sli.drew hNN) FF.out.2.1).mono ?_
              rintro e w7 ⟨va, vn, rfl, hAg, hNo, hc7⟩
              rw [FF.out.1.1] at hAg
              rw [FF.out.1.2] at hNo
              obtain ⟨no, nc, rfl, -, -, -⟩ := hNo.form
              have hU7 := (Sli.drew hUU).keep hc7
              clear hNo
              go_wp2_with fail
              refine (same_eq _ _ (Lt.dueOf l) _ hAg hU7 (by rw [← HA.out.2.1]; omega)).mono ?_
              rintro e w8 ⟨rfl, hc8⟩
              go_wp2_with fail
              go_ret
              exact ⟨rfl, Below.call (Below.call hbW.drew hc7) hc8⟩
        · skip
          replace hb0 := Below.call hb0 (Below.call hbr (Below.refl _ _).drew)
          have z3 : wr.frozen? ⟨w.heap.size, 3, none⟩ = false := L5.froz 3
          have z4 : (wr.setCell ⟨w.heap.size, 3, none⟩ (.slice uo D.length uc)).frozen? ⟨w.heap.size, 4, none⟩ = false := M3.froz 4
          go_wp2_with fail
          have hg2 : ¬ (l.now - x ≤ l.grace) := by omega
          go_region
          rcases hpol with ⟨p2, p3⟩ | ⟨p2, p3, pn⟩ | ⟨p2, p3, pn, ps⟩ | ⟨p2, p3, pd⟩
          all_goals try (exfalso; clear hR; omega)
          all_goals
            go_wp2_with fail
            refine (judge_yes (Lt.again l) _ _ _ (Sli.drew hUU) (Sli.drew hNN) FF.out.2.1).mono ?_
            rintro e w7 ⟨va, vn, rfl, hAg, hNo, hc7⟩
            rw [FF.out.1.1] at hAg
            rw [FF.out.1.2] at hNo
            obtain ⟨no, nc, rfl, -, -, -⟩ := hNo.form
            have hU7 := (Sli.drew hUU).keep hc7
            clear hNo
            go_wp2_with fail
            refine (same_eq _ _ (Lt.dueOf l) _ hAg hU7 (by rw [← HA.out.2.1]; omega)).mono ?_
            rintro e w8 ⟨rfl, hc8⟩
            go_wp2_with fail
            go_ret
            exact ⟨rfl, Below.call (Below.call hbW.drew hc7) hc8⟩

end Go.Proofs.Ytaepkmjlkenenaa
