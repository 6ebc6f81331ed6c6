import Derived.Test.YtaepkmjlkenenaaF5
namespace Go.Proofs.Ytaepkmjlkenenaa
open Go.RowKit

theorem Row.off {α : Type} {cells : α → List Value} {w w' : World} {v : Value} {l : List α} {Fr : Nat → Prop} (h : Row cells w v l) (ho : Off Fr w w') (hv : ∀ k, v.ownBlock = some k → ¬ Fr k) : Row cells w' v l := by
  obtain ⟨ao, cap, rfl, h1, h2, h3, h4⟩ := h
  refine ⟨ao, cap, rfl, h1, h2, h3, fun j u hu => ?_⟩
  obtain ⟨ad, ha, hc⟩ := h4 j u hu
  subst ha
  refine ⟨ad, rfl, ?_⟩
  have hb : (ad.add j).block = ad.block := by unfold Addr.add; split <;> rfl
  have hlt := World.block_lt_of_cell? w _ hc
  rw [← hc]
  exact World.cell?_of_block (w := w) (ho.same _ hlt (by rw [hb]; exact hv _ rfl))
theorem Row.off' {α : Type} {cells : α → List Value} {w w' : World} {v : Value} {l : List α} {Fr : Nat → Prop} (h : Row cells w v l) (ho : Off Fr w w') (hv : l ≠ [] → ∀ k, v.ownBlock = some k → ¬ Fr k) : Row cells w' v l := by
  cases l with
  | nil =>
    obtain ⟨ao, cap, rfl, h1, h2, h3, h4⟩ := h
    exact ⟨ao, cap, rfl, h1, h2, h3, by intro j u hu; simp at hu⟩
  | cons x l => exact h.off ho (hv (by simp))
/-- the states when k rules are looked at -/
def mid (F : List Fi.Fire) (now : Int) (l : List Fi.St) (k : Nat) : List Fi.St := (l.take k).map (Fi.look1 F now) ++ l.drop k
theorem mid_0 (F : List Fi.Fire) (now : Int) (l : List Fi.St) : mid F now l 0 = l := by simp [mid]
theorem mid_all (F : List Fi.Fire) (now : Int) (l : List Fi.St) : mid F now l l.length = Fi.look F now l := by simp [mid, Fi.look]
theorem mid_len (F : List Fi.Fire) (now : Int) (l : List Fi.St) (k : Nat) : (mid F now l k).length = l.length := by simp [mid]; omega
theorem mid_get (F : List Fi.Fire) (now : Int) (l : List Fi.St) (k : Nat) (hk : k < l.length) : (mid F now l k)[k]? = some l[k] := by
  unfold mid
  rw [List.getElem?_append_right (by simp; omega)]
  simp [hk, Nat.min_eq_left (Nat.le_of_lt hk)]
theorem mid_succ (F : List Fi.Fire) (now : Int) (l : List Fi.St) (k : Nat) (hk : k < l.length) : mid F now l (k + 1) = (mid F now l k).set k (Fi.look1 F now l[k]) := by
  unfold mid
  rw [List.set_append_right _ _ (by simp; omega), List.take_succ_eq_append_getElem hk, List.map_append, List.append_assoc, List.drop_eq_getElem_cons hk]
  simp only [List.length_map, List.length_take, Nat.min_eq_left (Nat.le_of_lt hk), Nat.sub_self, List.set_cons_zero, List.map_cons, List.map_nil, List.cons_append, List.nil_append]
theorem set_same {α : Type} (l : List α) (k : Nat) (a : α) (h : l[k]? = some a) : l.set k a = l := by
  obtain ⟨h1, rfl⟩ := List.getElem?_eq_some_iff.1 h
  exact List.set_getElem_self h1

theorem WV.keepAt {w w' : World} {b N : Nat} {v : Value} {l : List Fi.St} {last : Int} (h : WV w b v l last) (hb : Below N w w') (hl : b < N) (hv : ∀ j, v.ownBlock = some j → j < N) : WV w' b v l last :=
  ⟨by rw [hb.block b hl]; exact h.head, ownN_keepAt h.own (fun j hj => hb.block j (hv j hj))⟩
set_option maxRecDepth 100000 in
set_option maxHeartbeats 4000000 in
/-- a look -/
theorem look_any (b : Nat) (v vf : Value) (l : List Fi.St) (F : List Fi.Fire) (last now : Int) (hl : l.length ≤ 1000) (hn : F.length ≤ 1000000) (hf : ∀ f ∈ F, Fi.I64 f.at') (h0 : 0 ≤ now) (hlast : last ≤ now) (hnow : Fi.I64 now) (w : World) (hW : WV w b v l last) (hF : Fires w vf F)
    (hs : F ≠ [] → ∀ k, vf.ownBlock = some k → ¬ (k = b ∨ v.ownBlock = some k)) :
    Calls Try.prog 19 #[.pointer (some ⟨b, 0, none⟩), vf, .int .i64 now] w fun e w' => ∃ va, e = .returned (.tuple #[va, .int .i64 0]) ∧ WV w' b v (Fi.look F now l) now ∧ w'.ownsRow w.heap.size 53 3 va (Fi.rings F now 0 l).length ((Fi.rings F now 0 l).flatMap alC) ∧ Off (fun k => k = b ∨ v.ownBlock = some k) w w' ∧ Below b w w' := by
  obtain ⟨fo, fc, rfl, -, -, -⟩ := hF.form
  obtain ⟨c0, c1⟩ := hW.c0
  have f1 := hW.froz 1
  have hW1 := hW.set1 now
  have hO1 : Off (fun k => k = b ∨ v.ownBlock = some k) w (w.setCell ⟨b, 1, none⟩ (.int .i64 now)) := (Off.refl _ w).setCell (a := ⟨b, 1, none⟩) (.inl rfl) _
  have hB1 : Below b w (w.setCell ⟨b, 1, none⟩ (.int .i64 now)) := (Below.refl b w).setCell (p := ⟨b, 1, none⟩) (Nat.le_refl _) _
  obtain ⟨d0, d1⟩ := hW1.c0
  obtain ⟨vo, vc, hvf, -, -⟩ := ownN_form hW.own
  have hsz : (w.setCell ⟨b, 1, none⟩ (.int .i64 now)).heap.size = w.heap.size := by simp [World.setCell]
  have hbl : b < w.heap.size := hW.lt
  have hvlt : ∀ k, v.ownBlock = some k → k < w.heap.size := fun k hk => (World.ownsRow.lt hW.own k hk).2
  rw [hvf] at c0 d0
  have hl0 : ¬ now < 0 := by omega
  have hl1 : ¬ now < last := by omega
  have HV := Lib.hid hvf
  have HS := Lib.hid hs
  have HVL := Lib.hid hvlt
  clear hvf hs hvlt hW
  go_enter Try.func19, Try.ntmps19
  go_wp2_with fail
  clear c0 c1 d0 d1 f1
  generalize hN : w.heap.size = N at *
  generalize w.setCell ⟨b, 1, none⟩ (.int .i64 now) = W1 at *
  go_loopw [8, 35] (fun oo ii wr => ∃ (k : Nat) (va : Value), va = oo ∧ ii = .int .i64 k ∧ k ≤ l.length ∧ WV wr b v (mid F now l k) now ∧ wr.ownsRow N 53 3 va (Fi.rings F now 0 (l.take k)).length ((Fi.rings F now 0 (l.take k)).flatMap alC) ∧ Off (fun k => k = b ∨ v.ownBlock = some k) w wr ∧ Below b w wr) (fun _ ii _ => l.length - (intOf ii).toNat)
  case atStart => exact ⟨0, _, rfl, rfl, Nat.zero_le _, by rw [mid_0]; exact hW1, by simpa [Fi.rings] using World.ownsRow_nil W1 N 53 3, hO1, hB1⟩
  case round =>
    clear hW1 hO1 hB1 hsz
    obtain ⟨k, va, rfl, rfl, hk, hW, hA, hO, hB⟩ := hrel
    by_cases hlt : k < l.length
    · have hlt' : (k : Int) < (l.length : Int) := by omega
      have hmk := mid_get F now l k hlt
      have hms := mid_succ F now l k hlt
      have hrs := Fi.rings_snoc F now (l.take k) 0 l[k]
      rw [← List.take_succ_eq_append_getElem hlt] at hrs
      have htl : (l.take k).length = k := by rw [List.length_take]; omega
      have hrl := Fi.rings_len F now (l.take k) 0
      rw [htl] at hrs hrl
      have hml := mid_len F now l k
      obtain ⟨g, cap, hvg, hg, hglt⟩ := ownN_row hW.own (by rw [hml]; omega)
      rw [hml] at hvg
      have hvg2 : v.ownBlock = some g := by rw [hvg]; rfl
      have hgN : g < N := HVL.out g hvg2
      subst hvg
      generalize l[k] = s at *
      generalize Fi.rings F now 0 (l.take k) = R at *
      have hWc := hW.own
      rw [hml] at hWc
      have hcell := fun (j : Nat) (u : Value) (hu : (stC s)[j]? = some u) => (ownN_cell hWc (flat_get stC 5 stC_len _ k s j u hmk hu))
      have x0 : wr.cell? ⟨g, k * 5, none⟩ = some (.int .u8 s.rule.kind) := (hcell 0 _ rfl).1
      have x1 := (hcell 1 _ rfl).1
      have x2 := (hcell 2 _ rfl).1
      have x3 := (hcell 3 _ rfl).1
      have x4 := (hcell 4 _ rfl).1
      have y3 := (hcell 3 _ rfl).2
      have y4 := (hcell 4 _ rfl).2
      obtain ⟨d0, d1⟩ := hW.c0
      have hAm := amiss_any s.rule F _ now hf hnow hn wr (hF.off' hO HS.out)
      generalize hA' : Fi.amiss s.rule F now = A at *
      obtain ⟨ao9, ac9, rfl, -, -⟩ := ownN_form hA
      by_cases he : A = s.on
      · have hb : (A == s.on) = true := by simp [he]
        have hl1 : Fi.look1 F now s = s := by unfold Fi.look1; rw [hA', if_pos he]
        have hr1 : Fi.ring F now (0 + k) s = [] := by unfold Fi.ring; rw [hA', if_pos he]
        rw [hl1, set_same _ _ _ hmk] at hms
        rw [hr1, List.append_nil] at hrs
        have HM := Lib.hid (And.intro hms hrs)
        clear hms hrs hl1 hr1 he hA' hml htl hrl hmk hcell hWc hvg2
        go_wp2_with fail
        refine hAm.mono ?_
        clear hAm
        rintro e w5 ⟨rfl, hc⟩
        have W5 := hW.keep hc
        have A5 := ownN_keepAt hA (fun j hj => hc.block j (World.ownsRow.lt hA j hj).2)
        have x3 : w5.cell? ⟨g, k * 5 + 3, none⟩ = some (.bool s.on) := (hc.cell (p := ⟨g, k * 5 + 3, none⟩) (World.block_lt_of_cell? wr _ x3)).trans x3
        go_wp2_with fail
        exact ⟨⟨k + 1, _, rfl, by go_num, by omega, by rw [HM.out.1]; exact W5, by rw [HM.out.2]; exact A5, hO.then hc, hB.trans (hc.mono (Nat.le_of_lt hW.lt))⟩, by simp [intOf]; omega⟩
      · have hb : (A == s.on) = false := beq_false_of_ne he
        have hl1 : Fi.look1 F now s = { s with on := A, since := now } := by unfold Fi.look1; rw [hA', if_neg he]
        have hr1 : Fi.ring F now (0 + k) s = [⟨k, A, now⟩] := by unfold Fi.ring; rw [hA', if_neg he, Nat.zero_add]
        rw [hl1] at hms
        rw [hr1] at hrs
        have HM := Lib.hid (And.intro hms (And.intro hrs hmk))
        have HR := Lib.hid hrl
        clear hms hrs hl1 hr1 he hA' hml htl hmk hcell hWc
        go_wp2_with fail
        refine hAm.mono ?_
        clear hAm
        rintro e w5 ⟨rfl, hc⟩
        have W5 := hW.keep hc
        have A5 := ownN_keepAt hA (fun j hj => hc.block j (World.ownsRow.lt hA j hj).2)
        have hb5 := World.block_lt_of_cell? wr _ x3
        have x3 : w5.cell? ⟨g, k * 5 + 3, none⟩ = some (.bool s.on) := (hc.cell (p := ⟨g, k * 5 + 3, none⟩) hb5).trans x3
        have x4 : w5.cell? ⟨g, k * 5 + 4, none⟩ = some (.int .i64 s.since) := (hc.cell (p := ⟨g, k * 5 + 4, none⟩) hb5).trans x4
        have y3 : w5.frozen? ⟨g, k * 5 + 3, none⟩ = false := (hc.frozen (p := ⟨g, k * 5 + 3, none⟩) hb5).trans y3
        have y4 : w5.frozen? ⟨g, k * 5 + 4, none⟩ = false := (hc.frozen (p := ⟨g, k * 5 + 4, none⟩) hb5).trans y4
        have W6 := W5.turn k s HM.out.2.2 A now
        have x4' : (w5.setCell ⟨g, k * 5 + 3, none⟩ (.bool A)).cell? ⟨g, k * 5 + 4, none⟩ = some (.int .i64 s.since) := by
          rw [World.cell?_setCell_other _ _ _ _ (by simp)]; exact x4
        have O5 := hO.then hc
        have O6 : Off (fun k => k = b ∨ (Value.slice (some ⟨g, 0, none⟩) l.length cap).ownBlock = some k) w ((w5.setCell ⟨g, k * 5 + 3, none⟩ (.bool A)).setCell ⟨g, k * 5 + 4, none⟩ (.int .i64 now)) := (O5.setCell (a := ⟨g, k * 5 + 3, none⟩) (.inr rfl) _).setCell (a := ⟨g, k * 5 + 4, none⟩) (.inr rfl) _
        have B6 := ((hB.trans (hc.mono (Nat.le_of_lt hW.lt))).setCell (p := ⟨g, k * 5 + 3, none⟩) (by simp; omega) (.bool A)).setCell (p := ⟨g, k * 5 + 4, none⟩) (by simp; omega) (.int .i64 now)
        have A6 := ownN_keepAt A5 (w' := (w5.setCell ⟨g, k * 5 + 3, none⟩ (.bool A)).setCell ⟨g, k * 5 + 4, none⟩ (.int .i64 now)) (fun j hj => by
          have := (World.ownsRow.lt A5 j hj).1
          rw [Below.heap_setCell _ _ _ _ (by simp; omega), Below.heap_setCell _ _ _ _ (by simp; omega)])
        have hz6 : N ≤ ((w5.setCell ⟨g, k * 5 + 3, none⟩ (.bool A)).setCell ⟨g, k * 5 + 4, none⟩ (.int .i64 now)).heap.size := by rw [← hN]; exact O6.size
        have hsz6 : ((w5.setCell ⟨g, k * 5 + 3, none⟩ (.bool A)).setCell ⟨g, k * 5 + 4, none⟩ (.int .i64 now)).heap.size = w5.heap.size := by simp [World.setCell]
        go_wp2_with (at_builtin; refine wpList_appS _ rfl _ _ 49 rfl N 53 _ 3 24 Try.underlying49 Try.info53 (by decide) rfl (by decide) A6 [.int .i64 k, .bool A, .int .i64 now] rfl rfl (by rw [hsz6]; rfl) (by simp [Value.oneCell']) (by have := HR.out; omega) hz6 ?_; intro v' w' hown' hbel')
        refine ⟨⟨k + 1, v', rfl, by go_num, by omega, ?_, ?_, ⟨Nat.le_trans O6.size hbel'.size, fun i hi hf => (hbel'.block i (by omega)).trans (O6.same i hi hf)⟩, B6.trans (hbel'.mono (by omega))⟩, by simp [intOf]; omega⟩
        · rw [HM.out.1]
          exact W6.keepAt hbel' hbl (fun j hj => HVL.out j hj)
        · rw [HM.out.2.1, List.flatMap_append, List.length_append]
          exact hown'
    · obtain rfl : k = l.length := by omega
      rw [List.take_length] at hA
      rw [mid_all] at hW
      generalize hR : Fi.rings F now 0 l = R at *
      have HR := Lib.hid hR
      clear hR
      go_wp2_with fail
      go_ret2
      exact ⟨_, rfl, hW, by rw [HR.out, hN]; exact hA, hO, hB⟩
end Go.Proofs.Ytaepkmjlkenenaa
