/- The chapter's rows. -/
import Derived.Test.YtlcnjinabfbglaaR19
namespace Go.Proofs.Ytlcnjinabfbglaa
open Go.RowKit
def Small (m : Rp.Msg) : Prop := (∀ e ∈ m.ents, e.body.length ≤ 2001) ∧ m.ents.length ≤ 20 ∧ m.peers.length ≤ 20 ∧ m.image.length ≤ 262145
def GreatR (w w' : World) (m : Rp.Msg) (r : Ending) : Prop := ∃ g : Bool, r = .returned (.bool g) ∧ Below w.heap.size w w' ∧ (g = false → Small m)
set_option maxRecDepth 100000 in
set_option maxHeartbeats 4000000 in
theorem great_any (x : MV) (w : World) (h : MvOk w x) : Calls Try.prog 39 #[msgV x] w fun r w' => GreatR w w' x.m r := by
  have hS : (∀ e ∈ x.xs, e.body.length ≤ 2001) → x.xs.length ≤ 20 → x.m.peers.length ≤ 20 → x.m.image.length ≤ 262145 → Small x.m := fun h1 h2 h3 h4 => by
    refine ⟨?_, by rw [← h.xs, List.length_map]; exact h2, h3, h4⟩
    intro e he
    rw [← h.xs] at he
    obtain ⟨y, hy, rfl⟩ := List.mem_map.1 he
    exact h1 y hy
  have HS := Lib.hid hS
  clear hS
  obtain ⟨m, ev, pv, iv, xs⟩ := x
  simp only at *
  have hE : Ents w ev xs := h.ents
  have hP : Nums w pv m.peers := h.peers
  have hI : Bts w iv m.image := h.image
  obtain ⟨eo, ec, rfl, c1, c2, -⟩ := hE.form
  obtain ⟨po, pc, rfl, -, -, -⟩ := hP.form
  obtain ⟨io, ic, rfl, -, -, -⟩ := hI.form
  unfold maxLen at c2
  clear h hP hI
  generalize hpl : m.peers.length = pl at *
  generalize hil : m.image.length = il at *
  have hal := Below.al (Below.refl w.heap.size w) (.cells #[.int .i64 m.kind, Ytlcnjinabfbglaa.u64 m.frm, Ytlcnjinabfbglaa.u64 m.to, Ytlcnjinabfbglaa.u64 m.term, .bool m.pre, .bool m.ok, Ytlcnjinabfbglaa.u64 m.index, Ytlcnjinabfbglaa.u64 m.logTerm, Ytlcnjinabfbglaa.u64 m.commit, .slice eo xs.length ec, .slice po pl pc, Ytlcnjinabfbglaa.u64 m.sidx, Ytlcnjinabfbglaa.u64 m.sterm, .slice io il ic] 62)
  have hM : Mr (w.alloc (.cells #[.int .i64 m.kind, Ytlcnjinabfbglaa.u64 m.frm, Ytlcnjinabfbglaa.u64 m.to, Ytlcnjinabfbglaa.u64 m.term, .bool m.pre, .bool m.ok, Ytlcnjinabfbglaa.u64 m.index, Ytlcnjinabfbglaa.u64 m.logTerm, Ytlcnjinabfbglaa.u64 m.commit, .slice eo xs.length ec, .slice po pl pc, Ytlcnjinabfbglaa.u64 m.sidx, Ytlcnjinabfbglaa.u64 m.sterm, .slice io il ic] 62)) w.heap.size #[.int .i64 m.kind, Ytlcnjinabfbglaa.u64 m.frm, Ytlcnjinabfbglaa.u64 m.to, Ytlcnjinabfbglaa.u64 m.term, .bool m.pre, .bool m.ok, Ytlcnjinabfbglaa.u64 m.index, Ytlcnjinabfbglaa.u64 m.logTerm, Ytlcnjinabfbglaa.u64 m.commit, .slice eo xs.length ec, .slice po pl pc, Ytlcnjinabfbglaa.u64 m.sidx, Ytlcnjinabfbglaa.u64 m.sterm, .slice io il ic] := new_at _ _ _ rfl
  show Calls Try.prog 39 #[.agg #[.int .i64 m.kind, Ytlcnjinabfbglaa.u64 m.frm, Ytlcnjinabfbglaa.u64 m.to, Ytlcnjinabfbglaa.u64 m.term, .bool m.pre, .bool m.ok, Ytlcnjinabfbglaa.u64 m.index, Ytlcnjinabfbglaa.u64 m.logTerm, Ytlcnjinabfbglaa.u64 m.commit, .slice eo xs.length ec, .slice po pl pc, Ytlcnjinabfbglaa.u64 m.sidx, Ytlcnjinabfbglaa.u64 m.sterm, .slice io il ic]] w fun r w' => GreatR w w' m r
  go_enter Try.func39, Try.ntmps39
  go_upto_block 0 with fail
  have hE1 := hE.keep hal
  generalize w.alloc (.cells #[.int .i64 m.kind, Ytlcnjinabfbglaa.u64 m.frm, Ytlcnjinabfbglaa.u64 m.to, Ytlcnjinabfbglaa.u64 m.term, .bool m.pre, .bool m.ok, Ytlcnjinabfbglaa.u64 m.index, Ytlcnjinabfbglaa.u64 m.logTerm, Ytlcnjinabfbglaa.u64 m.commit, .slice eo xs.length ec, .slice po pl pc, Ytlcnjinabfbglaa.u64 m.sidx, Ytlcnjinabfbglaa.u64 m.sterm, .slice io il ic] 62) = W at *
  have f9 : W.cell? ⟨w.heap.size, 9, none⟩ = some (.slice eo xs.length ec) := hM.at 9 _ rfl
  have f10 : W.cell? ⟨w.heap.size, 10, none⟩ = some (.slice po pl pc) := hM.at 10 _ rfl
  have f13 : W.cell? ⟨w.heap.size, 13, none⟩ = some (.slice io il ic) := hM.at 13 _ rfl
  clear hM
  go_wp2_with fail
  go_loopw [3] (fun i wr => ∃ k : Nat, k ≤ xs.length ∧ i = .int .i64 (k : Int) ∧ wr = W ∧ ∀ e ∈ xs.take k, e.body.length ≤ 2001) (fun i _ => xs.length - (intOf i).toNat)
  case atStart => exact ⟨0, Nat.zero_le _, rfl, rfl, by simp⟩
  case round =>
    obtain ⟨k, hk, rfl, rfl, hb⟩ := hrel
    by_cases hlt : k < xs.length
    · as_aux_lemma =>
      have hlt' : (k : Int) < (xs.length : Int) := by omega
      have hx : xs[k]? = some xs[k] := List.getElem?_eq_getElem hlt
      obtain ⟨b, off, rfl, -, -, -, d2, hEv⟩ := Ents.at hE1 hx
      have htk : ∀ n : Nat, xs[k].body.length = n → n ≤ 2001 → ∀ e ∈ xs.take (k + 1), e.body.length ≤ 2001 := by
        intro n hn hn2 e he
        rw [List.take_succ_eq_append_getElem hlt] at he
        rcases List.mem_append.1 he with he | he
        · exact hb e he
        · obtain rfl := List.mem_singleton.1 he
          omega
      generalize xs[k] = x at *
      obtain ⟨vo, vc, hv, -⟩ := Bts.form hEv.1
      rw [hv] at d2
      obtain ⟨bl, hbl⟩ : ∃ bl, x.body.length = bl := ⟨_, rfl⟩
      have HT := Lib.hid (htk bl hbl)
      rw [hbl] at d2
      clear hx hEv hv hbl hb htk hE hE1 HS
      by_cases h1 : (100 : Int) < (bl : Int)
      · by_cases h2 : (bl : Int) < 2000
        · go_wp2_with fail
          go_ret
          exact ⟨true, rfl, hal, by simp⟩
        · by_cases h3 : (2001 : Int) < (bl : Int)
          · go_wp2_with fail
            go_ret
            exact ⟨true, rfl, hal, by simp⟩
          · go_wp2_with fail
            exact ⟨⟨k + 1, by omega, by go_num, (by first | rfl | trivial), HT.out (by omega)⟩, by simp [intOf]; omega⟩
      · have h3 : ¬ (2001 : Int) < (bl : Int) := by omega
        go_wp2_with fail
        exact ⟨⟨k + 1, by omega, by go_num, (by first | rfl | trivial), HT.out (by omega)⟩, by simp [intOf]; omega⟩
    · obtain rfl : k = xs.length := by omega
      rw [List.take_length] at hb
      have HB := Lib.hid hb
      clear hb hE hE1 hlt
      by_cases e20 : (20 : Int) < (xs.length : Int)
      · as_aux_lemma =>
        go_wp2_with fail
        go_ret
        exact ⟨true, rfl, hal, by simp⟩
      · by_cases p20 : (20 : Int) < (pl : Int)
        · as_aux_lemma =>
          go_wp2_with fail
          go_ret
          exact ⟨true, rfl, hal, by simp⟩
        · by_cases i1 : (1000 : Int) < (il : Int)
          · by_cases i2 : (il : Int) < 262144
            · as_aux_lemma =>
              go_wp2_with fail
              go_ret
              exact ⟨true, rfl, hal, by simp⟩
            · by_cases i3 : (262145 : Int) < (il : Int)
              · as_aux_lemma =>
                go_wp2_with fail
                go_ret
                exact ⟨true, rfl, hal, by simp⟩
              · as_aux_lemma =>
                go_wp2_with fail
                go_ret
                exact ⟨false, rfl, hal, fun _ => HS.out HB.out (by omega) (by omega) (by omega)⟩
          · have i3 : ¬ (262145 : Int) < (il : Int) := by omega
            as_aux_lemma =>
            go_wp2_with fail
            go_ret
            exact ⟨false, rfl, hal, fun _ => HS.out HB.out (by omega) (by omega) (by omega)⟩
end Go.Proofs.Ytlcnjinabfbglaa
namespace Go.Proofs.Ytlcnjinabfbglaa
open Go.RowKit
def m1 : Rp.Msg := ⟨1, 1, 2, 0, false, false, 0, 0, 0, [], [], 0, 0, []⟩
def m2 : Rp.Msg := ⟨6, 0, 0, 0, false, false, 0, 0, 0, [], [], 0, 0, []⟩
def bare (m : Rp.Msg) : MV := ⟨m, .slice none 0 0, .slice none 0 0, .slice none 0 0, []⟩
theorem bare_ok (w : World) (m : Rp.Msg) (h1 : m.ents = []) (h2 : m.peers = []) (h3 : m.image = []) (hn : m.N) (k1 : -9223372036854775808 ≤ m.kind) (k2 : m.kind ≤ 9223372036854775807) : MvOk w (bare m) :=
  ⟨Ents.nil w, by show Nums w (.slice none 0 0) m.peers; rw [h2]; exact Nums.nil w, by show Bts w (.slice none 0 0) m.image; rw [h3]; exact Sli.nil w, by show [] = m.ents; rw [h1], hn, k1, k2⟩
theorem m1_N : m1.N := ⟨by decide, by decide, by decide, by decide, by decide, by decide, by decide, by decide, by simp [m1], by simp [m1]⟩
theorem m2_N : m2.N := ⟨by decide, by decide, by decide, by decide, by decide, by decide, by decide, by decide, by simp [m2], by simp [m2]⟩
theorem m1_may : Rp.may m1 = true := by decide
theorem m2_may : Rp.may m2 = false := by decide
theorem m1_len : (Rp.bytes m1).length = 13 := by decide
theorem parse_nil : Rp.parse [] = none := by decide
set_option maxRecDepth 100000 in
set_option maxHeartbeats 4000000 in
theorem known_any (w : World) : Calls Try.prog 38 #[] w fun r w' => r = .returned (.bool true) ∧ Below w.heap.size w w' := by
  have h1 := fun w => msgPut_ok (bare m1) w (bare_ok w m1 rfl rfl rfl m1_N (by decide) (by decide)) m1_may
  have h2 := fun w => msgPut_bad (bare m2) w (bare_ok w m2 rfl rfl rfl m2_N (by decide) (by decide)) m2_may
  have h3 := fun w => msgParse_any (.slice none 0 0) [] w (Sli.nil w) (by simp)
  rw [parse_nil] at h3
  unfold ParseM at h3
  have hl := m1_len
  obtain ⟨L, hL⟩ : ∃ L, Rp.bytes (bare m1).m = L := ⟨_, rfl⟩
  rw [hL] at h1
  rw [show Rp.bytes m1 = L from hL] at hl
  have HL := Lib.hid hl
  clear hl hL
  go_enter Try.func38, Try.ntmps38
  go_wp2_with fail
  refine (h1 w).mono ?_
  rintro r w1 ⟨v1, rfl, ho1, hb1⟩
  obtain ⟨ao, ac, rfl, -, -⟩ := own_form ho1
  rw [HL.out]
  clear ho1
  go_wp2_with fail
  refine (h2 w1).mono ?_
  rintro r w2 ⟨rfl, hb2⟩
  go_wp2_with fail
  refine (h3 w2).mono ?_
  rintro r w3 ⟨hb3, rfl⟩
  have hbel := Below.call (Below.call hb1 hb2) hb3
  clear h1 h2 h3
  go_wp2_with fail
  go_ret
  exact ⟨rfl, Below.al hbel _⟩
end Go.Proofs.Ytlcnjinabfbglaa
