/- Parse. -/
import Derived.Test.YtlcnjinabfbglaaR18
import Derived.Deep.DeepCutAuto
import Derived.Deep.CutBlock
import Derived.Deep.MidRow
namespace Go.Proofs.Ytlcnjinabfbglaa
open Go.RowKit
/-- a string's bytes -/
theorem conv_bytes (W : World) (s : List UInt8) (h : s.length ≤ 1000000) : ∃ c X, (convert 9 22 (.string ⟨s.toArray⟩)).run Try.prog W = .ok (.slice (some ⟨W.heap.size, 0, none⟩) s.length c) X ∧ Bts X (.slice (some ⟨W.heap.size, 0, none⟩) s.length c) s ∧ Below W.heap.size W X := by
  have hg := grownCap_ge W s.length 0 5
  have hgm := grownCap_le_maxLen W s.length 0 5 (by unfold maxLen; omega)
  refine ⟨_, _, run_bytes_of_string (P := Try.prog) W 9 22 5 ⟨s.toArray⟩ Try.underlying9 Try.underlying22 Try.underlying5, ?_, (Below.refl _ _).drew.alloc (Nat.le_refl _) _⟩
  exact (str_bt W.drew s _ _ hg hgm).1
theorem EE.form {B : Nat} {W : World} {ev : Value} {xs : List EV} (h : EE B W ev xs) : ∃ ao c, ev = .slice ao xs.length c := by
  rcases h.own.2 with ⟨rfl, h0⟩ | ⟨g, cap, cur, rfl, -⟩
  · exact ⟨none, 0, by rw [h0]⟩
  · exact ⟨_, _, rfl⟩
theorem PP.form {B : Nat} {W : World} {ev : Value} {xs : List Nat} (h : PP B W ev xs) : ∃ ao c, ev = .slice ao xs.length c := by
  rcases h.own.2 with ⟨rfl, h0⟩ | ⟨g, cap, cur, rfl, -⟩
  · exact ⟨none, 0, by rw [h0]⟩
  · exact ⟨_, _, rfl⟩
/-- a message is laid into a block -/
theorem res14 {W : World} {R : Nat} (h : Mr W R zC) (u0 u1 u2 u3 u4 u5 u6 u7 u8 u9 u10 u11 u12 u13 : Value) : Mr ((((((((((((((W.setCell ⟨R, 0, none⟩ u0).setCell ⟨R, 1, none⟩ u1).setCell ⟨R, 2, none⟩ u2).setCell ⟨R, 3, none⟩ u3).setCell ⟨R, 4, none⟩ u4).setCell ⟨R, 5, none⟩ u5).setCell ⟨R, 6, none⟩ u6).setCell ⟨R, 7, none⟩ u7).setCell ⟨R, 8, none⟩ u8).setCell ⟨R, 9, none⟩ u9).setCell ⟨R, 10, none⟩ u10).setCell ⟨R, 11, none⟩ u11).setCell ⟨R, 12, none⟩ u12).setCell ⟨R, 13, none⟩ u13) R #[u0, u1, u2, u3, u4, u5, u6, u7, u8, u9, u10, u11, u12, u13] ∧ (∀ T : TypeId, T ≠ 62 → KT T W ((((((((((((((W.setCell ⟨R, 0, none⟩ u0).setCell ⟨R, 1, none⟩ u1).setCell ⟨R, 2, none⟩ u2).setCell ⟨R, 3, none⟩ u3).setCell ⟨R, 4, none⟩ u4).setCell ⟨R, 5, none⟩ u5).setCell ⟨R, 6, none⟩ u6).setCell ⟨R, 7, none⟩ u7).setCell ⟨R, 8, none⟩ u8).setCell ⟨R, 9, none⟩ u9).setCell ⟨R, 10, none⟩ u10).setCell ⟨R, 11, none⟩ u11).setCell ⟨R, 12, none⟩ u12).setCell ⟨R, 13, none⟩ u13)) ∧ Below R W ((((((((((((((W.setCell ⟨R, 0, none⟩ u0).setCell ⟨R, 1, none⟩ u1).setCell ⟨R, 2, none⟩ u2).setCell ⟨R, 3, none⟩ u3).setCell ⟨R, 4, none⟩ u4).setCell ⟨R, 5, none⟩ u5).setCell ⟨R, 6, none⟩ u6).setCell ⟨R, 7, none⟩ u7).setCell ⟨R, 8, none⟩ u8).setCell ⟨R, 9, none⟩ u9).setCell ⟨R, 10, none⟩ u10).setCell ⟨R, 11, none⟩ u11).setCell ⟨R, 12, none⟩ u12).setCell ⟨R, 13, none⟩ u13) := by
  have h0 := Mr.set h 0 u0
  simp only [List.setIfInBounds_toArray, List.set_cons_zero] at h0
  have h1 := Mr.set h0 1 u1
  simp only [List.setIfInBounds_toArray, List.set_cons_zero, List.set_cons_succ] at h1
  have h2 := Mr.set h1 2 u2
  simp only [List.setIfInBounds_toArray, List.set_cons_zero, List.set_cons_succ] at h2
  have h3 := Mr.set h2 3 u3
  simp only [List.setIfInBounds_toArray, List.set_cons_zero, List.set_cons_succ] at h3
  have h4 := Mr.set h3 4 u4
  simp only [List.setIfInBounds_toArray, List.set_cons_zero, List.set_cons_succ] at h4
  have h5 := Mr.set h4 5 u5
  simp only [List.setIfInBounds_toArray, List.set_cons_zero, List.set_cons_succ] at h5
  have h6 := Mr.set h5 6 u6
  simp only [List.setIfInBounds_toArray, List.set_cons_zero, List.set_cons_succ] at h6
  have h7 := Mr.set h6 7 u7
  simp only [List.setIfInBounds_toArray, List.set_cons_zero, List.set_cons_succ] at h7
  have h8 := Mr.set h7 8 u8
  simp only [List.setIfInBounds_toArray, List.set_cons_zero, List.set_cons_succ] at h8
  have h9 := Mr.set h8 9 u9
  simp only [List.setIfInBounds_toArray, List.set_cons_zero, List.set_cons_succ] at h9
  have h10 := Mr.set h9 10 u10
  simp only [List.setIfInBounds_toArray, List.set_cons_zero, List.set_cons_succ] at h10
  have h11 := Mr.set h10 11 u11
  simp only [List.setIfInBounds_toArray, List.set_cons_zero, List.set_cons_succ] at h11
  have h12 := Mr.set h11 12 u12
  simp only [List.setIfInBounds_toArray, List.set_cons_zero, List.set_cons_succ] at h12
  have h13 := Mr.set h12 13 u13
  simp only [List.setIfInBounds_toArray, List.set_cons_zero, List.set_cons_succ] at h13
  refine ⟨h13, fun T hT => (((((((((((((KT.setM h hT 0 u0).trans (KT.setM h0 hT 1 u1)).trans (KT.setM h1 hT 2 u2)).trans (KT.setM h2 hT 3 u3)).trans (KT.setM h3 hT 4 u4)).trans (KT.setM h4 hT 5 u5)).trans (KT.setM h5 hT 6 u6)).trans (KT.setM h6 hT 7 u7)).trans (KT.setM h7 hT 8 u8)).trans (KT.setM h8 hT 9 u9)).trans (KT.setM h9 hT 10 u10)).trans (KT.setM h10 hT 11 u11)).trans (KT.setM h11 hT 12 u12)).trans (KT.setM h12 hT 13 u13), (((((((((((((((Below.refl R W).setCell (p := ⟨R, 0, none⟩) (Nat.le_refl R) u0).setCell (p := ⟨R, 1, none⟩) (Nat.le_refl R) u1).setCell (p := ⟨R, 2, none⟩) (Nat.le_refl R) u2).setCell (p := ⟨R, 3, none⟩) (Nat.le_refl R) u3).setCell (p := ⟨R, 4, none⟩) (Nat.le_refl R) u4).setCell (p := ⟨R, 5, none⟩) (Nat.le_refl R) u5).setCell (p := ⟨R, 6, none⟩) (Nat.le_refl R) u6).setCell (p := ⟨R, 7, none⟩) (Nat.le_refl R) u7).setCell (p := ⟨R, 8, none⟩) (Nat.le_refl R) u8).setCell (p := ⟨R, 9, none⟩) (Nat.le_refl R) u9).setCell (p := ⟨R, 10, none⟩) (Nat.le_refl R) u10).setCell (p := ⟨R, 11, none⟩) (Nat.le_refl R) u11).setCell (p := ⟨R, 12, none⟩) (Nat.le_refl R) u12).setCell (p := ⟨R, 13, none⟩) (Nat.le_refl R) u13)⟩
theorem cells14 {W : World} {R : Nat} {u0 u1 u2 u3 u4 u5 u6 u7 u8 u9 u10 u11 u12 u13 : Value} (h : Mr W R #[u0, u1, u2, u3, u4, u5, u6, u7, u8, u9, u10, u11, u12, u13]) : W.cell? ⟨R, 0, none⟩ = some u0 ∧ W.cell? ⟨R, 1, none⟩ = some u1 ∧ W.cell? ⟨R, 2, none⟩ = some u2 ∧ W.cell? ⟨R, 3, none⟩ = some u3 ∧ W.cell? ⟨R, 4, none⟩ = some u4 ∧ W.cell? ⟨R, 5, none⟩ = some u5 ∧ W.cell? ⟨R, 6, none⟩ = some u6 ∧ W.cell? ⟨R, 7, none⟩ = some u7 ∧ W.cell? ⟨R, 8, none⟩ = some u8 ∧ W.cell? ⟨R, 9, none⟩ = some u9 ∧ W.cell? ⟨R, 10, none⟩ = some u10 ∧ W.cell? ⟨R, 11, none⟩ = some u11 ∧ W.cell? ⟨R, 12, none⟩ = some u12 ∧ W.cell? ⟨R, 13, none⟩ = some u13 :=
  ⟨h.at 0 _ rfl, h.at 1 _ rfl, h.at 2 _ rfl, h.at 3 _ rfl, h.at 4 _ rfl, h.at 5 _ rfl, h.at 6 _ rfl, h.at 7 _ rfl, h.at 8 _ rfl, h.at 9 _ rfl, h.at 10 _ rfl, h.at 11 _ rfl, h.at 12 _ rfl, h.at 13 _ rfl⟩
theorem Try.size62 : (Try.prog.info? 62).map (·.size) = some 14 := by kernel_rfl
/-- a message is stored -/
theorem wpList_storeM {W : World} {ops : Array Oper} {rest : List Oper} {o : Oper} {a : Act} {Q : Exit → Act → World → Prop} (hgd : o.guard = none) (x y : Operand) (ho : o.op = .store 62 x y) {R : Nat} (h : Mr W R zC) {u0 u1 u2 u3 u4 u5 u6 u7 u8 u9 u10 u11 u12 u13 : Value}
    (hx : a.eval x = .pointer (some ⟨R, 0, none⟩)) (hy : a.eval y = .agg #[u0, u1, u2, u3, u4, u5, u6, u7, u8, u9, u10, u11, u12, u13]) (h1 : #[u0, u1, u2, u3, u4, u5, u6, u7, u8, u9, u10, u11, u12, u13].all (·.oneCell') = true)
    (hK : ∀ X, Mr X R #[u0, u1, u2, u3, u4, u5, u6, u7, u8, u9, u10, u11, u12, u13] → (∀ T : TypeId, T ≠ 62 → KT T W X) → Below R W X → wpList Try.prog ops Q rest (a.put o.dst undef) X) : wpList Try.prog ops Q (o :: rest) a W := by
  obtain ⟨r1, r2, r3⟩ := res14 h u0 u1 u2 u3 u4 u5 u6 u7 u8 u9 u10 u11 u12 u13
  refine wpList_store_mid hgd 62 x y ho R 0 #[u0, u1, u2, u3, u4, u5, u6, u7, u8, u9, u10, u11, u12, u13] hx hy (fun j hj => ?_) Try.size62 h1 (hK _ r1 r2 r3)
  refine ⟨?_, h.froz _⟩
  rw [cell_of_row W R _ zC 62 (0, 0) h]
  have hj : 0 + j < zC.size := by simpa using hj
  rw [Array.getElem?_eq_getElem hj]
  rfl
/-- a message is loaded -/
theorem wpList_loadM {W : World} {ops : Array Oper} {rest : List Oper} {o : Oper} {a : Act} {Q : Exit → Act → World → Prop} (hgd : o.guard = none) (x : Operand) (ho : o.op = .load 62 x) {R : Nat} {cs : Array Value} (h : Mr W R cs) (hs : cs.size = 14)
    (hx : a.eval x = .pointer (some ⟨R, 0, none⟩)) (hK : wpList Try.prog ops Q rest (a.put o.dst (.agg cs)) W) : wpList Try.prog ops Q (o :: rest) a W := by
  refine wpList_load_mid hgd 62 x ho R 0 hx cs.toList _ (fun j v hj => ?_) Try.underlying62 rfl ?_ (by simpa using hK)
  · rw [cell_of_row W R _ cs 62 (0, 0) h, Nat.zero_add]
    simpa using hj
  · rw [Try.size62, Array.length_toList, hs]
set_option maxRecDepth 100000 in
set_option maxHeartbeats 1000000 in
theorem clone2_any (v : Value) (l : List UInt8) (w : World) (hB : Bts w v l) (hl : l.length ≤ 1000000) : Calls Try.prog 62 #[v] w fun r w' => ∃ v', r = .returned v' ∧ OwnB w.heap.size w' v' l ∧ Below w.heap.size w w' := by
  have q22 : ∀ (w : World) (a : Option Addr) (n c n' c' : Nat), (binOp .eql 22 (.slice a n c) (.slice none n' c')).run Try.prog w = .ok (.bool a.isNone) w := fun w a n c n' c' => Lib.run_eql_slice_nil w _ _ a n c n' c' Try.underlying22
  obtain ⟨ao, cap, rfl, h1, h2, h3⟩ := hB.form
  cases ao with
  | none =>
    obtain rfl := h3 rfl
    have h0 : l.length = 0 := by omega
    obtain rfl := List.eq_nil_of_length_eq_zero h0
    clear h0 h1 h2 h3 hl
    go_enter Try.func62, Try.ntmps62
    go_wp2_with fail
    go_ret
    exact ⟨_, rfl, World.ownsRow_nil _ _ _ _, Below.refl _ _⟩
  | some ad =>
    have hB1 := hB.keep (Below.al (Below.refl w.heap.size w) (.cells #[] 5))
    go_enter Try.func62, Try.ntmps62
    go_wp2_with (at_builtin; refine wpList_appB (w.alloc (.cells #[] 5)) rfl _ _ rfl w.heap.size (own_lit0 w) hB1 rfl rfl (by simp; omega) (by simp) ?_; intro ao3 ac3 w3 ho3 hg3 hb3)
    go_ret
    exact ⟨_, rfl, by simpa using ho3, ((Below.refl _ _).alloc (Nat.le_refl _) _).trans hb3⟩
/-- what Parse hands back -/
def ParseM (N : Nat) (w w' : World) (R : Option Rp.Msg) (r : Ending) : Prop := Below N w w' ∧ match R with
  | none => r = .returned (.tuple #[noMsg, .int .i64 4])
  | some m => ∃ x : MV, x.m = m ∧ MvOk w' x ∧ r = .returned (.tuple #[msgV x, .int .i64 0])
set_option maxRecDepth 100000 in
set_option maxHeartbeats 8000000 in
theorem msgParse_any (v : Value) (b : List UInt8) (w : World) (hB : Bts w v b) (hl : b.length ≤ 1000000) : Calls Try.prog 42 #[v] w fun r w' => ParseM w.heap.size w w' (Rp.parse b) r := by
  obtain ⟨k0, s1, e0⟩ : ∃ k s, Rp.numO b 5 (some 0) = (k, s) := ⟨_, _, rfl⟩
  obtain ⟨k1, s2, e1⟩ : ∃ k s, Rp.numO b Rp.any s1 = (k, s) := ⟨_, _, rfl⟩
  obtain ⟨k2, s3, e2⟩ : ∃ k s, Rp.numO b Rp.any s2 = (k, s) := ⟨_, _, rfl⟩
  obtain ⟨k3, s4, e3⟩ : ∃ k s, Rp.numO b Rp.any s3 = (k, s) := ⟨_, _, rfl⟩
  obtain ⟨k4, s5, e4⟩ : ∃ k s, Rp.numO b 3 s4 = (k, s) := ⟨_, _, rfl⟩
  obtain ⟨k5, s6, e5⟩ : ∃ k s, Rp.numO b Rp.any s5 = (k, s) := ⟨_, _, rfl⟩
  obtain ⟨k6, s7, e6⟩ : ∃ k s, Rp.numO b Rp.any s6 = (k, s) := ⟨_, _, rfl⟩
  obtain ⟨k7, s8, e7⟩ : ∃ k s, Rp.numO b Rp.any s7 = (k, s) := ⟨_, _, rfl⟩
  obtain ⟨k8, s9, e8⟩ : ∃ k s, Rp.numO b 16 s8 = (k, s) := ⟨_, _, rfl⟩
  obtain ⟨es, s10, e9⟩ : ∃ k s, Rp.entsO b k8 s9 = (k, s) := ⟨_, _, rfl⟩
  obtain ⟨kp, s11, e10⟩ : ∃ k s, Rp.numO b 7 s10 = (k, s) := ⟨_, _, rfl⟩
  obtain ⟨ps, s12, e11⟩ : ∃ k s, Rp.peersO b kp s11 = (k, s) := ⟨_, _, rfl⟩
  obtain ⟨q0, s13, e12⟩ : ∃ k s, Rp.numO b Rp.any s12 = (k, s) := ⟨_, _, rfl⟩
  obtain ⟨q1, s14, e13⟩ : ∃ k s, Rp.numO b Rp.any s13 = (k, s) := ⟨_, _, rfl⟩
  obtain ⟨q2, s15, e14⟩ : ∃ k s, Rp.numO b 262144 s14 = (k, s) := ⟨_, _, rfl⟩
  have hP : Rp.parse b = match (generalizing := false) s15 with
      | none => none
      | some j => if b.length - j = q2 ∧ Rp.may ⟨(k0 : Nat), k1, k2, k3, decide (k4 % 2 = 1), decide (k4 / 2 = 1), k5, k6, k7, es, ps, q0, q1, b.drop j⟩ = true then some ⟨(k0 : Nat), k1, k2, k3, decide (k4 % 2 = 1), decide (k4 / 2 = 1), k5, k6, k7, es, ps, q0, q1, b.drop j⟩ else none := by
    have hA : Rp.numsO b [5, Rp.any, Rp.any, Rp.any, 3, Rp.any, Rp.any, Rp.any, 16] (some 0) = ([k0, k1, k2, k3, k4, k5, k6, k7, k8], s9) := by
      simp only [Rp.numsO, e0, e1, e2, e3, e4, e5, e6, e7, e8]
    have hr : Rp.rdS b = ⟨([k0, k1, k2, k3, k4, k5, k6, k7, k8], s9), (es, s10), (kp, s11), (ps, s12), ([q0, q1, q2], s15)⟩ := by
      unfold Rp.rdS
      rw [hA]
      simp only [List.getD_cons_succ, List.getD_cons_zero]
      simp only [Rp.numsO, e9, e10, e11, e12, e13, e14]
    unfold Rp.parse
    rw [hr]
    rfl
  have h0 := numO_le' _ _ _ _ _ e0
  have h4 := numO_le' _ _ _ _ _ e4
  have h8 := numO_le' _ _ _ _ _ e8
  have hp7 := numO_le' _ _ _ _ _ e10
  have hq2 := numO_le' _ _ _ _ _ e14
  have g1 := numO_le' _ _ _ _ _ e1
  have g2 := numO_le' _ _ _ _ _ e2
  have g3 := numO_le' _ _ _ _ _ e3
  have g5 := numO_le' _ _ _ _ _ e5
  have g6 := numO_le' _ _ _ _ _ e6
  have g7 := numO_le' _ _ _ _ _ e7
  have gq0 := numO_le' _ _ _ _ _ e12
  have gq1 := numO_le' _ _ _ _ _ e13
  obtain ⟨R, hR⟩ : ∃ R, R = Rp.parse b := ⟨_, rfl⟩
  rw [← hR]
  rw [hP] at hR
  have HP := Lib.hid hR
  have HG := Lib.hid (And.intro g1 (And.intro g2 (And.intro g3 (And.intro g5 (And.intro g6 (And.intro g7 (And.intro gq0 gq1)))))))
  clear hP hR g1 g2 g3 g5 g6 g7 gq0 gq1
  obtain ⟨ao, cap, rfl, -, -, -⟩ := hB.form
  obtain ⟨N, hN⟩ : ∃ N, w.heap.size = N := ⟨_, rfl⟩
  have P0 := PS.start w (.slice ao b.length cap) b
  have hBw : ∀ W', Below N w W' → Bts W' (.slice ao b.length cap) b := fun W' h => hB.keep (hN.symm ▸ h)
  rw [hN] at P0 ⊢
  clear hB
  go_enter Try.func42, Try.ntmps42
  go_upto_region 3 with fail
  simp only [Nat.add_assoc, Nat.reduceAdd]
  simp only [hN] at *
  generalize hW0 : ((((w.alloc (.cells #[.slice ao b.length cap] 22)).alloc (.cells zC 62)).alloc (.cells #[.int .i64 0] 3)).alloc (.cells #[.bool false] 4)) = W0 at *
  have c0 := num_ps N _ b _ _ 5 k0 w W0 P0 hBw hl e0
  go_wp2_with fail
  refine c0.mono ?_
  rintro r W1 ⟨rfl, P1, -, hk⟩
  clear c0 P0
  have c1 := num_ps N _ b _ _ Rp.any k1 w W1 P1 hBw hl e1
  go_wp2_with fail
  refine c1.mono ?_
  rintro r W2 ⟨rfl, P2, -, hk⟩
  clear c1 P1
  have c2 := num_ps N _ b _ _ Rp.any k2 w W2 P2 hBw hl e2
  go_wp2_with fail
  refine c2.mono ?_
  rintro r W3 ⟨rfl, P3, -, hk⟩
  clear c2 P2
  have c3 := num_ps N _ b _ _ Rp.any k3 w W3 P3 hBw hl e3
  go_wp2_with fail
  refine c3.mono ?_
  rintro r W4 ⟨rfl, P4, -, hk⟩
  clear c3 P3
  have hw0 : IntKind.i64.wrap (k0 : Int) = (k0 : Int) := IntWalk.i64_in _ (by omega)
  go_upto_region 4 with fail
  have hNM : N + 4 ≤ W4.heap.size := P4.lt
  have hM : Mr (W4.alloc (.cells #[.int .i64 (k0 : Int), Ytlcnjinabfbglaa.u64 k1, Ytlcnjinabfbglaa.u64 k2, Ytlcnjinabfbglaa.u64 k3, .bool false, .bool false, .int .u64 0, .int .u64 0, .int .u64 0, .slice none 0 0, .slice none 0 0, .int .u64 0, .int .u64 0, .slice none 0 0] 62)) W4.heap.size #[.int .i64 (k0 : Int), Ytlcnjinabfbglaa.u64 k1, Ytlcnjinabfbglaa.u64 k2, Ytlcnjinabfbglaa.u64 k3, .bool false, .bool false, .int .u64 0, .int .u64 0, .int .u64 0, .slice none 0 0, .slice none 0 0, .int .u64 0, .int .u64 0, .slice none 0 0] := new_at _ _ _ rfl
  replace P4 := P4.keep (Below.al (Below.refl W4.heap.size W4) (.cells #[.int .i64 (k0 : Int), Ytlcnjinabfbglaa.u64 k1, Ytlcnjinabfbglaa.u64 k2, Ytlcnjinabfbglaa.u64 k3, .bool false, .bool false, .int .u64 0, .int .u64 0, .int .u64 0, .slice none 0 0, .slice none 0 0, .int .u64 0, .int .u64 0, .slice none 0 0] 62))
  obtain ⟨M, hM0⟩ : ∃ M, W4.heap.size = M := ⟨_, rfl⟩
  rw [hM0] at hM hNM ⊢
  generalize W4.alloc (.cells #[.int .i64 (k0 : Int), Ytlcnjinabfbglaa.u64 k1, Ytlcnjinabfbglaa.u64 k2, Ytlcnjinabfbglaa.u64 k3, .bool false, .bool false, .int .u64 0, .int .u64 0, .int .u64 0, .slice none 0 0, .slice none 0 0, .int .u64 0, .int .u64 0, .slice none 0 0] 62) = W4 at *
  clear hM0
  have c4 := num_ps N _ b _ _ 3 k4 w W4 P4 hBw hl e4
  go_wp2_with fail
  refine c4.mono ?_
  rintro r W5 ⟨rfl, P5, -, hk⟩
  clear c4 P4
  replace hM := hM.kt (hk 62 (by decide) (by decide))
  go_upto_region 5 with fail
  go_cut [] (fun wx => PS N w (.slice ao b.length cap) b s5 wx ∧ Mr wx M #[.int .i64 (k0 : Int), Ytlcnjinabfbglaa.u64 k1, Ytlcnjinabfbglaa.u64 k2, Ytlcnjinabfbglaa.u64 k3, .bool (decide (k4 % 2 = 1)), .bool (decide (k4 / 2 = 1)), .int .u64 0, .int .u64 0, .int .u64 0, .slice none 0 0, .slice none 0 0, .int .u64 0, .int .u64 0, .slice none 0 0])
  case first => as_aux_lemma =>
    have f4 := hM.froz 4
    have d4 : W5.cell? ⟨M, 4, none⟩ = some (.bool false) := hM.at 4 _ rfl
    have f5 := fun x => (hM.set 4 (.bool x)).froz 5
    have d5 : ∀ x, (W5.setCell ⟨M, 4, none⟩ (.bool x)).cell? ⟨M, 5, none⟩ = some (.bool false) := fun x => (hM.set 4 (.bool x)).at 5 _ rfl
    have hcase : k4 = 0 ∨ k4 = 1 ∨ k4 = 2 ∨ k4 = 3 := by omega
    clear e4
    rcases hcase with rfl | rfl | rfl | rfl
    all_goals
      go_wp2_with fail
      go_meet
      exact ⟨(P5.setM hNM _).setM hNM _, (hM.set 4 _).set 5 _⟩
  case rest =>
  clear P5 hM
  obtain ⟨P5, hM⟩ := hcut
  obtain ⟨fp, hfp⟩ : ∃ fp, decide (k4 % 2 = 1) = fp := ⟨_, rfl⟩
  obtain ⟨fo, hfo⟩ : ∃ fo, decide (k4 / 2 = 1) = fo := ⟨_, rfl⟩
  rw [hfp, hfo] at hM HP
  generalize wc = W5 at *
  have c5 := num_ps N _ b _ _ Rp.any k5 w W5 P5 hBw hl e5
  go_wp2_with fail
  refine c5.mono ?_
  rintro r W6 ⟨rfl, P6, -, hk⟩
  clear c5 P5
  replace hM := hM.kt (hk 62 (by decide) (by decide))
  have c6 := num_ps N _ b _ _ Rp.any k6 w W6 P6 hBw hl e6
  go_wp2_with fail
  refine c6.mono ?_
  rintro r W7 ⟨rfl, P7, -, hk⟩
  clear c6 P6
  replace hM := hM.kt (hk 62 (by decide) (by decide))
  have c7 := num_ps N _ b _ _ Rp.any k7 w W7 P7 hBw hl e7
  go_wp2_with fail
  refine c7.mono ?_
  rintro r W8 ⟨rfl, P8, -, hk⟩
  clear c7 P7
  replace hM := hM.kt (hk 62 (by decide) (by decide))
  have f6 := hM.froz 6
  have d6 : W8.cell? ⟨M, 6, none⟩ = some (.int .u64 0) := hM.at 6 _ rfl
  have m7 := hM.set 6 (Ytlcnjinabfbglaa.u64 k5)
  have f7 := m7.froz 7
  have d7 : (W8.setCell ⟨M, 6, none⟩ (Ytlcnjinabfbglaa.u64 k5)).cell? ⟨M, 7, none⟩ = some (.int .u64 0) := m7.at 7 _ rfl
  have m8 := m7.set 7 (Ytlcnjinabfbglaa.u64 k6)
  have f8 := m8.froz 8
  have d8 : ((W8.setCell ⟨M, 6, none⟩ (Ytlcnjinabfbglaa.u64 k5)).setCell ⟨M, 7, none⟩ (Ytlcnjinabfbglaa.u64 k6)).cell? ⟨M, 8, none⟩ = some (.int .u64 0) := m8.at 8 _ rfl
  have hM9 : Mr (((W8.setCell ⟨M, 6, none⟩ (Ytlcnjinabfbglaa.u64 k5)).setCell ⟨M, 7, none⟩ (Ytlcnjinabfbglaa.u64 k6)).setCell ⟨M, 8, none⟩ (Ytlcnjinabfbglaa.u64 k7)) M #[.int .i64 (k0 : Int), Ytlcnjinabfbglaa.u64 k1, Ytlcnjinabfbglaa.u64 k2, Ytlcnjinabfbglaa.u64 k3, .bool fp, .bool fo, Ytlcnjinabfbglaa.u64 k5, Ytlcnjinabfbglaa.u64 k6, Ytlcnjinabfbglaa.u64 k7, .slice none 0 0, .slice none 0 0, .int .u64 0, .int .u64 0, .slice none 0 0] := m8.set 8 (Ytlcnjinabfbglaa.u64 k7)
  have P9 := ((P8.setM (i := 6) hNM (Ytlcnjinabfbglaa.u64 k5)).setM (i := 7) hNM (Ytlcnjinabfbglaa.u64 k6)).setM (i := 8) hNM (Ytlcnjinabfbglaa.u64 k7)
  clear m7 m8 hM P8
  go_upto_region 7 with fail
  generalize ((W8.setCell ⟨M, 6, none⟩ (Ytlcnjinabfbglaa.u64 k5)).setCell ⟨M, 7, none⟩ (Ytlcnjinabfbglaa.u64 k6)).setCell ⟨M, 8, none⟩ (Ytlcnjinabfbglaa.u64 k7) = W9 at *
  clear f6 d6 f7 d7 f8 d8
  have hM := hM9
  clear hM9
  have c8 := num_ps N _ b _ _ 16 k8 w W9 P9 hBw hl e8
  go_wp2_with fail
  refine c8.mono ?_
  rintro r W10 ⟨rfl, P10, -, hk⟩
  clear c8 P9
  replace hM := hM.kt (hk 62 (by decide) (by decide))
  clear hk
  go_upto_block 0 with fail
  go_cut [9,10,11,12,13] (fun u9 u10 u11 u12 u13 wx => ∃ ev xs, PS N w (.slice ao b.length cap) b s10 wx ∧ Mr wx M #[.int .i64 (k0 : Int), Ytlcnjinabfbglaa.u64 k1, Ytlcnjinabfbglaa.u64 k2, Ytlcnjinabfbglaa.u64 k3, .bool fp, .bool fo, Ytlcnjinabfbglaa.u64 k5, Ytlcnjinabfbglaa.u64 k6, Ytlcnjinabfbglaa.u64 k7, ev, .slice none 0 0, .int .u64 0, .int .u64 0, .slice none 0 0] ∧ EE (M + 1) wx ev xs ∧ xs.map EV.ent = es)
  case first =>
    go_wp2_with fail
    go_loopw [47,9,10,11,12,13] (fun i u9 u10 u11 u12 u13 wr => ∃ (k : Nat) (s : Option Nat) (ev : Value) (xs : List EV) (rest : List Rp.Ent), k ≤ k8 ∧ i = .int .u64 (k : Int) ∧ PS N w (.slice ao b.length cap) b s wr ∧ Mr wr M #[.int .i64 (k0 : Int), Ytlcnjinabfbglaa.u64 k1, Ytlcnjinabfbglaa.u64 k2, Ytlcnjinabfbglaa.u64 k3, .bool fp, .bool fo, Ytlcnjinabfbglaa.u64 k5, Ytlcnjinabfbglaa.u64 k6, Ytlcnjinabfbglaa.u64 k7, ev, .slice none 0 0, .int .u64 0, .int .u64 0, .slice none 0 0] ∧ EE (M + 1) wr ev xs ∧ xs.length = k ∧ (s = none → k = k8) ∧ Rp.entsO b (k8 - k) s = (rest, s10) ∧ xs.map EV.ent ++ rest = es) (fun i u9 u10 u11 u12 u13 _ => k8 - (intOf i).toNat)
    case atStart => exact ⟨0, s9, .slice none 0 0, [], es, Nat.zero_le _, rfl, P10, hM, EE.nil _ _, rfl, fun h => (numO_zero _ _ _ _ _ e8 h).symm, e9, rfl⟩
    case round =>
      clear P10 hM
      obtain ⟨k, s, ev, xs, rest, hk, rfl, P, hM, hE, hxl, hs, he, hes⟩ := hrel
      subst hxl
      by_cases hlt : xs.length < k8
      · have hlt' : (xs.length : Int) < (k8 : Int) := by omega
        obtain ⟨m, hm⟩ : ∃ m, k8 - xs.length = m + 1 := ⟨k8 - xs.length - 1, by omega⟩
        rw [hm] at he
        cases s with
        | none => exact absurd (hs rfl) (by omega)
        | some a =>
          clear hs
          obtain ⟨a', ha, hat, hsa⟩ := P.ns.at_
          obtain rfl := hsa a rfl
          have hbv := hBw _ P.bel
          have t1 := takeText_any _ b a wr hbv ha (by omega)
          have c1 := P.ns.box.cell
          have c2 := hat.cell
          rw [Rp.entsO] at he
          cases ht : Pk.takeText b a with
          | none => as_aux_lemma =>
            rw [ht] at t1 he
            simp only [Prod.mk.injEq] at he
            obtain ⟨rfl, rfl⟩ := he
            obtain ⟨c, X, hcv, hBX, hbX⟩ := conv_bytes wr [] (by simp)
            have hW := walParse_any _ [] X hBX (by simp)
            unfold ParseE at hW
            rw [parseE_1 [] (by rfl)] at hW
            simp only [takeTV] at t1 hW
            clear ht hm
            go_wp2_with (first
              | (go_at_call 28; refine t1.mono ?_; rintro e w1 ⟨rfl, rfl⟩)
              | (go_at_call 61; refine hW.mono ?_; rintro e2 w2 ⟨hb2, rfl⟩; have hbY := (Below.al (hbX.trans (hb2.mono hbX.size)) (.cells #[.int .u64 0, .int .u64 0, .slice none 0 0] 79)); have PY := P.keep hbY; have cb := PY.badAt.cell; have fb := PY.badAt.froz; have PY2 := PY.bad_ none (Or.inl rfl); have cb2 := PY2.badAt.cell; simp only [Option.isNone_some, Option.isNone_none] at cb cb2 PY2))
            go_meet
            exact ⟨ev, xs, PY2, (hM.kt (KT.below hbY _)).other _ (by simp only; omega) _, (hE.kt (KT.below hbY _) (KT.below hbY _)).kt (KT.setRow PY.badAt (by decide) 0 _) (KT.setRow PY.badAt (by decide) 0 _), by simpa using hes⟩
          | some p =>
            obtain ⟨t, j⟩ := p
            obtain ⟨-, htl, haj, hjl⟩ := Pk.takeText_canon b a j t ht
            replace hjl := hjl ha
            rw [ht] at t1 he
            simp only at he
            obtain ⟨c, X, hcv, hBX, hbX⟩ := conv_bytes wr t (by omega)
            have hW := walParse_any _ t X hBX (by omega)
            unfold ParseE at hW
            cases hp : Rp.parseE t with
            | none => as_aux_lemma =>
              rw [hp] at hW he
              simp only [Prod.mk.injEq] at he
              obtain ⟨rfl, rfl⟩ := he
              simp only [takeTV] at t1 hW
              clear ht hm hp
              go_wp2_with (first
                | (go_at_call 28; refine t1.mono ?_; rintro e w1 ⟨rfl, rfl⟩)
                | (go_at_call 61; refine hW.mono ?_; rintro e2 w2 ⟨hb2, rfl⟩; have hbY := (Below.al (hbX.trans (hb2.mono hbX.size)) (.cells #[.int .u64 0, .int .u64 0, .slice none 0 0] 79)); have PY := P.keep hbY; have cb := PY.badAt.cell; have fb := PY.badAt.froz; have PY2 := PY.bad_ none (Or.inl rfl); have cb2 := PY2.badAt.cell; simp only [Option.isNone_some, Option.isNone_none] at cb cb2 PY2))
              go_meet
              exact ⟨ev, xs, PY2, (hM.kt (KT.below hbY _)).other _ (by simp only; omega) _, (hE.kt (KT.below hbY _) (KT.below hbY _)).kt (KT.setRow PY.badAt (by decide) 0 _) (KT.setRow PY.badAt (by decide) 0 _), by simpa using hes⟩
            | some e =>
              rw [hp] at hW he
              simp only [Prod.mk.injEq] at he
              obtain ⟨hrest, hs10⟩ := he
              have hen := (Rp.parseE_some t e hp).2.2
              simp only [takeTV] at t1 hW
              have HF := Lib.hid (And.intro hrest (And.intro hs10 (And.intro hes hm)))
              clear ht hm hp hrest hs10 hes
              go_upto_region 13 with (first
                | (go_at_call 28; refine t1.mono ?_; rintro e1 w1 ⟨rfl, rfl⟩)
                | (go_at_call 61; refine hW.mono ?_; rintro e2 w2 ⟨hb2, bv, rfl, hbt2⟩; obtain ⟨vo, vc, rfl, -⟩ := Bts.form hbt2.1; have hbY := (Below.al (hbX.trans (hb2.mono hbX.size)) (.cells #[Ytlcnjinabfbglaa.u64 e.idx, Ytlcnjinabfbglaa.u64 e.term, .slice vo e.body.length vc] 79)); have PY := P.keep hbY; have cb := PY.badAt.cell; have fb := PY.badAt.froz; have PY2 := PY.bad_ (some a) (Or.inr rfl); have cb2 := PY2.badAt.cell; simp only [Option.isNone_some] at cb cb2 PY2))
              have hMl := hM.lt
              have hMY := (hM.kt (KT.below hbY _)).other ⟨N + 3, 0, none⟩ (by simp only; omega) (.bool false)
              have hEY := (hE.kt (KT.below hbY _) (KT.below hbY _)).kt (KT.setRow PY.badAt (by decide) 0 (.bool false)) (KT.setRow PY.badAt (by decide) 0 (.bool false))
              have hbtY := (hbt2.k5 (KT.k5 (KT.below (Below.al (Below.refl w2.heap.size w2) (.cells #[Ytlcnjinabfbglaa.u64 e.idx, Ytlcnjinabfbglaa.u64 e.term, .slice vo e.body.length vc] 79)) 5))).k5 (KT.k5 (KT.setRow PY.badAt (by decide) 0 (.bool false)))
              have hY : ((w2.alloc (.cells #[Ytlcnjinabfbglaa.u64 e.idx, Ytlcnjinabfbglaa.u64 e.term, .slice vo e.body.length vc] 79)).setCell ⟨N + 3, 0, none⟩ (.bool false)).heap[w2.heap.size]? = some (.cells #[Ytlcnjinabfbglaa.u64 e.idx, Ytlcnjinabfbglaa.u64 e.term, .slice vo e.body.length vc] 79 (0, 0)) := by
                rw [Below.heap_setCell _ _ _ _ (by simp only; have := hbX.size; have := hb2.size; have := P.lt; omega)]
                exact new_at _ _ _ rfl
              have hMs : M + 1 ≤ ((w2.alloc (.cells #[Ytlcnjinabfbglaa.u64 e.idx, Ytlcnjinabfbglaa.u64 e.term, .slice vo e.body.length vc] 79)).setCell ⟨N + 3, 0, none⟩ (.bool false)).heap.size := hMY.lt
              clear cb fb cb2 PY hbt2 hb2 hbX hBX hcv hW hbY t1 hE hM P c1 c2 hbv hat hsa
              generalize (w2.alloc (.cells #[Ytlcnjinabfbglaa.u64 e.idx, Ytlcnjinabfbglaa.u64 e.term, .slice vo e.body.length vc] 79)).setCell ⟨N + 3, 0, none⟩ (.bool false) = Y at *
              generalize w2.heap.size = yb at *
              obtain ⟨y0, y1, y2⟩ := cells3 hY
              obtain ⟨eo, ec, rfl⟩ := hEY.form
              have m9 : Y.cell? ⟨M, 9, none⟩ = some (.slice eo xs.length ec) := hMY.at 9 _ rfl
              go_wp2_with (at_builtin; refine wpList_appE Y rfl _ _ rfl (M + 1) hEY ⟨e.idx, e.term, .slice vo e.body.length vc, e.body⟩ hbtY hen vo e.body.length vc rfl rfl rfl (by omega) hMs ?_; intro v' Z hE' hb' hk'; obtain ⟨eo', ec', hev'⟩ := hE'.form; rw [List.length_append, List.length_singleton] at hev'; subst hev'; have hM' := hMY.kt (hk' 62 (by decide)); have z9 : Z.cell? ⟨M, 9, none⟩ = some (.slice eo xs.length ec) := hM'.at 9 _ rfl; have zf := hM'.froz 9; have P' := PY2.above (hb'.mono (by omega)); have P6 := P'.setM (i := 9) hNM (.slice eo' (xs.length + 1) ec'); obtain ⟨a1, ha1, hat1, -⟩ := P6.ns.at_; have z1 := hat1.cell; have z2 := hat1.froz)
              obtain ⟨hrest, hs10, hes, hm⟩ := HF.out
              refine ⟨⟨xs.length + 1, some j, .slice eo' (xs.length + 1) ec', xs ++ [⟨e.idx, e.term, .slice vo e.body.length vc, e.body⟩], (Rp.entsO b m (some j)).1, by omega, by go_num, P6.step hjl, ((hM'.set 9 _).other _ (by simp only; omega) _), (hE'.kt (KT.setM hM' (by decide) 9 _) (KT.setM hM' (by decide) 9 _)).kt (KT.setRow hat1 (by decide) 0 _) (KT.setRow hat1 (by decide) 0 _), by simp, (fun h => by cases h), ?_, ?_⟩, by simp [intOf]; omega⟩
              · rw [show k8 - (xs.length + 1) = m by omega, ← hs10]
              · rw [List.map_append, List.append_assoc, ← hes, ← hrest]
                rfl
      · obtain rfl : xs.length = k8 := by omega
        as_aux_lemma =>
        rw [Nat.sub_self, Rp.entsO] at he
        simp only [Prod.mk.injEq] at he
        obtain ⟨rfl, rfl⟩ := he
        clear hs hlt
        go_wp2_with fail
        go_meet
        exact ⟨ev, xs, P, hM, hE, by simpa using hes⟩
  case rest =>
  clear P10 hM
  obtain ⟨ev, xs, P11, hM, hE, hes⟩ := hcut
  obtain ⟨eo, ec, rfl⟩ := hE.form
  have hMs : M + 1 ≤ wc.heap.size := hM.lt
  have c10 := num_ps N _ b _ _ 7 kp w wc P11 hBw hl e10
  go_wp2_with fail
  refine c10.mono ?_
  rintro r W12 ⟨rfl, P12, -, hk⟩
  clear c10 P11 hMs
  replace hM := hM.kt (hk 62 (by decide) (by decide))
  replace hE := hE.kt (hk 79 (by decide) (by decide)) (hk 5 (by decide) (by decide))
  clear hk
  go_upto_block 2 with fail
  go_cut [] (fun wx => ∃ pv, PS N w (.slice ao b.length cap) b s12 wx ∧ Mr wx M #[.int .i64 (k0 : Int), Ytlcnjinabfbglaa.u64 k1, Ytlcnjinabfbglaa.u64 k2, Ytlcnjinabfbglaa.u64 k3, .bool fp, .bool fo, Ytlcnjinabfbglaa.u64 k5, Ytlcnjinabfbglaa.u64 k6, Ytlcnjinabfbglaa.u64 k7, .slice eo xs.length ec, pv, .int .u64 0, .int .u64 0, .slice none 0 0] ∧ EE (M + 1) wx (.slice eo xs.length ec) xs ∧ PP (M + 1) wx pv ps)
  case first =>
    go_wp2_with fail
    go_loopw [82] (fun i wr => ∃ (k : Nat) (s : Option Nat) (pv : Value) (ns rest : List Nat), k ≤ kp ∧ i = .int .u64 (k : Int) ∧ PS N w (.slice ao b.length cap) b s wr ∧ Mr wr M #[.int .i64 (k0 : Int), Ytlcnjinabfbglaa.u64 k1, Ytlcnjinabfbglaa.u64 k2, Ytlcnjinabfbglaa.u64 k3, .bool fp, .bool fo, Ytlcnjinabfbglaa.u64 k5, Ytlcnjinabfbglaa.u64 k6, Ytlcnjinabfbglaa.u64 k7, .slice eo xs.length ec, pv, .int .u64 0, .int .u64 0, .slice none 0 0] ∧ EE (M + 1) wr (.slice eo xs.length ec) xs ∧ PP (M + 1) wr pv ns ∧ ns.length = k ∧ Rp.peersO b (kp - k) s = (rest, s12) ∧ ns ++ rest = ps) (fun i _ => kp - (intOf i).toNat)
    case atStart => exact ⟨0, s11, .slice none 0 0, [], ps, Nat.zero_le _, rfl, P12, hM, hE, PP.nil _ _, rfl, e11, rfl⟩
    case round =>
      clear P12 hM hE
      obtain ⟨k, s, pv, ns, rest, hk, rfl, P, hM, hE, hPP, hnl, he, hps⟩ := hrel
      subst hnl
      by_cases hlt : ns.length < kp
      · have hlt' : (ns.length : Int) < (kp : Int) := by omega
        obtain ⟨m, hm⟩ : ∃ m, kp - ns.length = m + 1 := ⟨kp - ns.length - 1, by omega⟩
        rw [hm, Rp.peersO] at he
        obtain ⟨n, s', en⟩ : ∃ n s', Rp.numO b 18446744073709551615 s = (n, s') := ⟨_, _, rfl⟩
        rw [en] at he
        simp only [Prod.mk.injEq] at he
        obtain ⟨hrest, hs12⟩ := he
        have hn64 : Rp.N64 n := by have := numO_le' _ _ _ _ _ en; unfold Rp.N64; omega
        have HF := Lib.hid (And.intro hrest (And.intro hs12 (And.intro hps hm)))
        clear hrest hs12 hps hm
        obtain ⟨po, pc, rfl⟩ := hPP.form
        have hbd := (Below.refl wr.heap.size wr).drew
        go_wp2_with fail
        refine wp_region_held_drew (S := fun _ => True) (by kernel_rfl) trivial (fun h0 => ?_)
        replace P := P.keep hbd
        replace hM := hM.kt (KT.below hbd _)
        replace hE := hE.kt (KT.below hbd _) (KT.below hbd _)
        replace hPP := hPP.kt (KT.below hbd _)
        clear hbd
        generalize wr.drew = X at *
        refine wpAnyH_take (i := 0) (oi := { dst := _, op := _, type := _, pos := _, after := _, guard := _ }) (v := ?vz0) rfl (by kernel_rfl) (by kernel_rfl) (by kernel_rfl) (fun _ _ _ h => h) (Or.inl ⟨by rfl, ?yz0⟩) (by trivial) ?rz0; (case yz0 => intro w hSw; go_simp <;> with_reducible rfl); simp only [Act.put, List.setIfInBounds_toArray, List.set_cons_zero, List.set_cons_succ]
        refine wpAnyH_take (i := 2) (oi := { dst := _, op := _, type := _, pos := _, after := _, guard := _ }) (v := ?vz2) rfl (by kernel_rfl) (by kernel_rfl) (by kernel_rfl) (fun _ _ _ h => h) (Or.inl ⟨by rfl, ?yz2⟩) (by trivial) ?rz2; (case yz2 => intro w hSw; go_simp <;> with_reducible rfl); simp only [Act.put, List.setIfInBounds_toArray, List.set_cons_zero, List.set_cons_succ]
        refine wpAnyH_ready (rs := [1, 3]) (by kernel_rfl) (by simp) ?_
        refine AllReadyH.cons (o := { dst := _, op := _, type := _, pos := _, after := _, guard := _ }) rfl (fun K hK => ?_) (AllReadyH.cons (o := { dst := _, op := _, type := _, pos := _, after := _, guard := _ }) rfl (fun K hK => ?_) AllReadyH.nil)
        focus
          have l1 : X.cell? ⟨M, 10, none⟩ = some (.slice po ns.length pc) := hM.at 10 _ rfl
          go_simp
          refine hK.out _ _ trivial (fun _ => ?_)
          clear hK K
          refine wpAnyH_ready (rs := [3]) (by kernel_rfl) (by simp) ?_
          refine AllReadyH.cons (o := { dst := _, op := _, type := _, pos := _, after := _, guard := _ }) rfl (fun K hK => ?_) AllReadyH.nil
          go_simp
          refine (num_ps N _ b _ _ 18446744073709551615 n w X P hBw hl en).mono ?_
          rintro e x1 ⟨rfl, P1, -, hk⟩
          have hM1 := hM.kt (hk 62 (by decide) (by decide))
          have hE1 := hE.kt (hk 79 (by decide) (by decide)) (hk 5 (by decide) (by decide))
          have hP1 := hPP.kt (hk 30 (by decide) (by decide))
          have hs1 : M + 1 ≤ x1.heap.size := hM1.lt
          refine hK.out _ _ trivial (fun _ => ?_)
          clear hK K
          refine wpAnyH_ready (rs := [4]) (by kernel_rfl) (by simp) ?_
          refine AllReadyH.cons (o := { dst := _, op := _, type := _, pos := _, after := _, guard := _ }) rfl (fun K hK => ?_) AllReadyH.nil
          go_simp
          refine hK.out _ _ trivial (fun _ => ?_)
          clear hK K
          refine wpAnyH_ready (rs := [5]) (by kernel_rfl) (by simp) ?_
          refine AllReadyH.cons (o := { dst := _, op := _, type := _, pos := _, after := _, guard := _ }) rfl (fun K hK => ?_) AllReadyH.nil
          refine wp_appP x1 _ _ rfl (M + 1) hP1 n hn64 rfl rfl (by omega) hs1 ?_
          intro v' Z hpp hb' hk'
          obtain ⟨po', pc', hpv'⟩ := hpp.form
          rw [List.length_append, List.length_singleton] at hpv'
          subst hpv'
          simp only [Act.put, List.setIfInBounds_toArray, List.set_cons_zero, List.set_cons_succ]
          refine hK.out _ _ trivial (fun _ => ?_)
          clear hK K
          refine wpAnyH_take (i := 6) (oi := { dst := _, op := _, type := _, pos := _, after := _, guard := _ }) (v := ?va6) rfl (by kernel_rfl) (by kernel_rfl) (by kernel_rfl) (fun _ _ _ h => h) (Or.inl ⟨by rfl, ?ya6⟩) (by trivial) ?ra6; (case ya6 => intro w hSw; go_simp <;> with_reducible rfl); simp only [Act.put, List.setIfInBounds_toArray, List.set_cons_zero, List.set_cons_succ]
          refine wpAnyH_ready (rs := [7]) (by kernel_rfl) (by simp) ?_
          refine AllReadyH.cons (o := { dst := _, op := _, type := _, pos := _, after := _, guard := _ }) rfl (fun K hK => ?_) AllReadyH.nil
          have hM2 := hM1.kt (hk' 62 (by decide))
          have fr := hM2.froz 10
          have fc : Z.cell? ⟨M, 10, none⟩ = some (.slice po ns.length pc) := hM2.at 10 _ rfl
          go_simp
          refine hK.out _ _ trivial (fun _ => ?_)
          clear hK K
          refine wpAnyH_done (by kernel_rfl) ?_ _
          go_wp2_with fail
          obtain ⟨hrest, hs12, hps, hm⟩ := HF.out
          refine ⟨⟨ns.length + 1, s', .slice po' (ns.length + 1) pc', ns ++ [n], (Rp.peersO b m s').1, by omega, by go_num, (P1.above (hb'.mono (by omega))).setM hNM _, hM2.set 10 _, (hE1.kt (hk' 79 (by decide)) (hk' 5 (by decide))).kt (KT.setM hM2 (by decide) 10 _) (KT.setM hM2 (by decide) 10 _), hpp.kt (KT.setM hM2 (by decide) 10 _), by simp, ?_, ?_⟩, by simp [intOf]; omega⟩
          · rw [show kp - (ns.length + 1) = m by omega, ← hs12]
          · rw [List.append_assoc, ← hps, ← hrest]
            rfl
        focus
          go_simp
          refine (num_ps N _ b _ _ 18446744073709551615 n w X P hBw hl en).mono ?_
          rintro e x1 ⟨rfl, P1, -, hk⟩
          have hM1 := hM.kt (hk 62 (by decide) (by decide))
          have hE1 := hE.kt (hk 79 (by decide) (by decide)) (hk 5 (by decide) (by decide))
          have hP1 := hPP.kt (hk 30 (by decide) (by decide))
          have hs1 : M + 1 ≤ x1.heap.size := hM1.lt
          refine hK.out _ _ trivial (fun _ => ?_)
          clear hK K
          refine wpAnyH_ready (rs := [1, 4]) (by kernel_rfl) (by simp) ?_
          refine AllReadyH.cons (o := { dst := _, op := _, type := _, pos := _, after := _, guard := _ }) rfl (fun K hK => ?_) (AllReadyH.cons (o := { dst := _, op := _, type := _, pos := _, after := _, guard := _ }) rfl (fun K hK => ?_) AllReadyH.nil)
          focus
            have l1 : x1.cell? ⟨M, 10, none⟩ = some (.slice po ns.length pc) := hM1.at 10 _ rfl
            go_simp
            refine hK.out _ _ trivial (fun _ => ?_)
            clear hK K
            refine wpAnyH_ready (rs := [4]) (by kernel_rfl) (by simp) ?_
            refine AllReadyH.cons (o := { dst := _, op := _, type := _, pos := _, after := _, guard := _ }) rfl (fun K hK => ?_) AllReadyH.nil
            go_simp
            refine hK.out _ _ trivial (fun _ => ?_)
            clear hK K
            refine wpAnyH_ready (rs := [5]) (by kernel_rfl) (by simp) ?_
            refine AllReadyH.cons (o := { dst := _, op := _, type := _, pos := _, after := _, guard := _ }) rfl (fun K hK => ?_) AllReadyH.nil
            refine wp_appP x1 _ _ rfl (M + 1) hP1 n hn64 rfl rfl (by omega) hs1 ?_
            intro v' Z hpp hb' hk'
            obtain ⟨po', pc', hpv'⟩ := hpp.form
            rw [List.length_append, List.length_singleton] at hpv'
            subst hpv'
            simp only [Act.put, List.setIfInBounds_toArray, List.set_cons_zero, List.set_cons_succ]
            refine hK.out _ _ trivial (fun _ => ?_)
            clear hK K
            refine wpAnyH_take (i := 6) (oi := { dst := _, op := _, type := _, pos := _, after := _, guard := _ }) (v := ?vb6) rfl (by kernel_rfl) (by kernel_rfl) (by kernel_rfl) (fun _ _ _ h => h) (Or.inl ⟨by rfl, ?yb6⟩) (by trivial) ?rb6; (case yb6 => intro w hSw; go_simp <;> with_reducible rfl); simp only [Act.put, List.setIfInBounds_toArray, List.set_cons_zero, List.set_cons_succ]
            refine wpAnyH_ready (rs := [7]) (by kernel_rfl) (by simp) ?_
            refine AllReadyH.cons (o := { dst := _, op := _, type := _, pos := _, after := _, guard := _ }) rfl (fun K hK => ?_) AllReadyH.nil
            have hM2 := hM1.kt (hk' 62 (by decide))
            have fr := hM2.froz 10
            have fc : Z.cell? ⟨M, 10, none⟩ = some (.slice po ns.length pc) := hM2.at 10 _ rfl
            go_simp
            refine hK.out _ _ trivial (fun _ => ?_)
            clear hK K
            refine wpAnyH_done (by kernel_rfl) ?_ _
            go_wp2_with fail
            obtain ⟨hrest, hs12, hps, hm⟩ := HF.out
            refine ⟨⟨ns.length + 1, s', .slice po' (ns.length + 1) pc', ns ++ [n], (Rp.peersO b m s').1, by omega, by go_num, (P1.above (hb'.mono (by omega))).setM hNM _, hM2.set 10 _, (hE1.kt (hk' 79 (by decide)) (hk' 5 (by decide))).kt (KT.setM hM2 (by decide) 10 _) (KT.setM hM2 (by decide) 10 _), hpp.kt (KT.setM hM2 (by decide) 10 _), by simp, ?_, ?_⟩, by simp [intOf]; omega⟩
            · rw [show kp - (ns.length + 1) = m by omega, ← hs12]
            · rw [List.append_assoc, ← hps, ← hrest]
              rfl
          focus
            go_simp
            refine hK.out _ _ trivial (fun _ => ?_)
            clear hK K
            refine wpAnyH_ready (rs := [1]) (by kernel_rfl) (by simp) ?_
            refine AllReadyH.cons (o := { dst := _, op := _, type := _, pos := _, after := _, guard := _ }) rfl (fun K hK => ?_) AllReadyH.nil
            have l1 : (x1.alloc (.cells #[Ytlcnjinabfbglaa.u64 n] 30)).cell? ⟨M, 10, none⟩ = some (.slice po ns.length pc) := (hM1.kt (KT.below (Below.al (Below.refl x1.heap.size x1) _) _)).at 10 _ rfl
            go_simp
            refine hK.out _ _ trivial (fun _ => ?_)
            clear hK K
            refine wpAnyH_ready (rs := [5]) (by kernel_rfl) (by simp) ?_
            refine AllReadyH.cons (o := { dst := _, op := _, type := _, pos := _, after := _, guard := _ }) rfl (fun K hK => ?_) AllReadyH.nil
            refine wp_appP x1 _ _ rfl (M + 1) hP1 n hn64 rfl rfl (by omega) hs1 ?_
            intro v' Z hpp hb' hk'
            obtain ⟨po', pc', hpv'⟩ := hpp.form
            rw [List.length_append, List.length_singleton] at hpv'
            subst hpv'
            simp only [Act.put, List.setIfInBounds_toArray, List.set_cons_zero, List.set_cons_succ]
            refine hK.out _ _ trivial (fun _ => ?_)
            clear hK K
            refine wpAnyH_take (i := 6) (oi := { dst := _, op := _, type := _, pos := _, after := _, guard := _ }) (v := ?vc6) rfl (by kernel_rfl) (by kernel_rfl) (by kernel_rfl) (fun _ _ _ h => h) (Or.inl ⟨by rfl, ?yc6⟩) (by trivial) ?rc6; (case yc6 => intro w hSw; go_simp <;> with_reducible rfl); simp only [Act.put, List.setIfInBounds_toArray, List.set_cons_zero, List.set_cons_succ]
            refine wpAnyH_ready (rs := [7]) (by kernel_rfl) (by simp) ?_
            refine AllReadyH.cons (o := { dst := _, op := _, type := _, pos := _, after := _, guard := _ }) rfl (fun K hK => ?_) AllReadyH.nil
            have hM2 := hM1.kt (hk' 62 (by decide))
            have fr := hM2.froz 10
            have fc : Z.cell? ⟨M, 10, none⟩ = some (.slice po ns.length pc) := hM2.at 10 _ rfl
            go_simp
            refine hK.out _ _ trivial (fun _ => ?_)
            clear hK K
            refine wpAnyH_done (by kernel_rfl) ?_ _
            go_wp2_with fail
            obtain ⟨hrest, hs12, hps, hm⟩ := HF.out
            refine ⟨⟨ns.length + 1, s', .slice po' (ns.length + 1) pc', ns ++ [n], (Rp.peersO b m s').1, by omega, by go_num, (P1.above (hb'.mono (by omega))).setM hNM _, hM2.set 10 _, (hE1.kt (hk' 79 (by decide)) (hk' 5 (by decide))).kt (KT.setM hM2 (by decide) 10 _) (KT.setM hM2 (by decide) 10 _), hpp.kt (KT.setM hM2 (by decide) 10 _), by simp, ?_, ?_⟩, by simp [intOf]; omega⟩
            · rw [show kp - (ns.length + 1) = m by omega, ← hs12]
            · rw [List.append_assoc, ← hps, ← hrest]
              rfl
      · obtain rfl : ns.length = kp := by omega
        as_aux_lemma =>
        rw [Nat.sub_self, Rp.peersO] at he
        simp only [Prod.mk.injEq] at he
        obtain ⟨rfl, rfl⟩ := he
        rw [List.append_nil] at hps
        subst hps
        clear hlt
        go_wp2_with fail
        go_meet
        exact ⟨pv, P, hM, hE, hPP⟩
  case rest =>
  clear P12 hM hE
  obtain ⟨pv, P12, hM, hE, hPP⟩ := hcut
  obtain ⟨po, pc, rfl⟩ := hPP.form
  have c12 := num_ps N _ b _ _ Rp.any q0 w wc P12 hBw hl e12
  go_wp2_with fail
  refine c12.mono ?_
  rintro r W13 ⟨rfl, P13, -, hk⟩
  clear c12 P12
  replace hM := hM.kt (hk 62 (by decide) (by decide))
  replace hE := hE.kt (hk 79 (by decide) (by decide)) (hk 5 (by decide) (by decide))
  replace hPP := hPP.kt (hk 30 (by decide) (by decide))
  clear hk
  have c13 := num_ps N _ b _ _ Rp.any q1 w W13 P13 hBw hl e13
  go_wp2_with fail
  refine c13.mono ?_
  rintro r W14 ⟨rfl, P14, -, hk⟩
  clear c13 P13
  replace hM := hM.kt (hk 62 (by decide) (by decide))
  replace hE := hE.kt (hk 79 (by decide) (by decide)) (hk 5 (by decide) (by decide))
  replace hPP := hPP.kt (hk 30 (by decide) (by decide))
  clear hk
  have f11 := hM.froz 11
  have d11 : W14.cell? ⟨M, 11, none⟩ = some (.int .u64 0) := hM.at 11 _ rfl
  have m12 := hM.set 11 (Ytlcnjinabfbglaa.u64 q0)
  have f12 := m12.froz 12
  have d12 : (W14.setCell ⟨M, 11, none⟩ (Ytlcnjinabfbglaa.u64 q0)).cell? ⟨M, 12, none⟩ = some (.int .u64 0) := m12.at 12 _ rfl
  have hM15 : Mr ((W14.setCell ⟨M, 11, none⟩ (Ytlcnjinabfbglaa.u64 q0)).setCell ⟨M, 12, none⟩ (Ytlcnjinabfbglaa.u64 q1)) M #[.int .i64 (k0 : Int), Ytlcnjinabfbglaa.u64 k1, Ytlcnjinabfbglaa.u64 k2, Ytlcnjinabfbglaa.u64 k3, .bool fp, .bool fo, Ytlcnjinabfbglaa.u64 k5, Ytlcnjinabfbglaa.u64 k6, Ytlcnjinabfbglaa.u64 k7, .slice eo xs.length ec, .slice po ps.length pc, Ytlcnjinabfbglaa.u64 q0, Ytlcnjinabfbglaa.u64 q1, .slice none 0 0] := m12.set 12 (Ytlcnjinabfbglaa.u64 q1)
  have P15 := (P14.setM (i := 11) hNM (Ytlcnjinabfbglaa.u64 q0)).setM (i := 12) hNM (Ytlcnjinabfbglaa.u64 q1)
  have hE15 := (hE.kt (KT.setM hM (by decide) 11 (Ytlcnjinabfbglaa.u64 q0)) (KT.setM hM (by decide) 11 (Ytlcnjinabfbglaa.u64 q0))).kt (KT.setM m12 (by decide) 12 (Ytlcnjinabfbglaa.u64 q1)) (KT.setM m12 (by decide) 12 (Ytlcnjinabfbglaa.u64 q1))
  have hPP15 := (hPP.kt (KT.setM hM (by decide) 11 (Ytlcnjinabfbglaa.u64 q0))).kt (KT.setM m12 (by decide) 12 (Ytlcnjinabfbglaa.u64 q1))
  clear m12 hM P14 hE hPP
  go_upto_region 20 with fail
  generalize (W14.setCell ⟨M, 11, none⟩ (Ytlcnjinabfbglaa.u64 q0)).setCell ⟨M, 12, none⟩ (Ytlcnjinabfbglaa.u64 q1) = W15 at *
  clear f11 d11 f12 d12
  have c14 := num_ps N _ b _ _ 262144 q2 w W15 P15 hBw hl e14
  go_wp2_with fail
  refine c14.mono ?_
  rintro r W16 ⟨rfl, P16, -, hk⟩
  clear c14 P15
  have hM := hM15.kt (hk 62 (by decide) (by decide))
  have hE := hE15.kt (hk 79 (by decide) (by decide)) (hk 5 (by decide) (by decide))
  have hPP := hPP15.kt (hk 30 (by decide) (by decide))
  clear hk hM15 hE15 hPP15
  have HE := Lib.hid (And.intro hE (And.intro hPP hes))
  clear hE hPP hes e0 e1 e2 e3 e4 e5 e6 e7 e8 e9 e10 e11 e12 e13 e14
  cases s15 with
  | none => as_aux_lemma =>
    have hR := HP.out
    simp only at hR
    subst hR
    have cb : W16.cell? ⟨N + 3, 0, none⟩ = some (.bool true) := P16.badAt.cell
    have hres := P16.res
    clear HP HG HE hM
    go_upto_region 22 with fail
    go_wp2_with (refine wpList_storeM rfl _ _ rfl hres rfl rfl (by simp [Value.oneCell']) ?_; intro X mm hkt hbl)
    obtain ⟨m0, m1, m2, m3, m4, m5, m6, m7, m8, m9, m10, m11, m12, m13⟩ := cells14 mm
    exact bodyPost_ret (v := .tuple #[noMsg, .int .i64 4]) (by simp [results, Try.results42, go_sem, m0, m1, m2, m3, m4, m5, m6, m7, m8, m9, m10, m11, m12, m13]) rfl ⟨P16.bel.trans (hbl.mono (Nat.le_succ N)), rfl⟩
  | some j =>
    obtain ⟨a', ha, hat, hsa⟩ := P16.ns.at_
    obtain rfl := hsa j rfl
    have cb : W16.cell? ⟨N + 3, 0, none⟩ = some (.bool false) := P16.badAt.cell
    have c1 := P16.ns.box.cell
    have c2 := hat.cell
    clear hat hsa
    by_cases hq : b.length - j = q2
    · have hz1 : ((b.length : Int) - (j : Int) == (q2 : Int)) = true := by rw [beq_iff_eq]; omega
      have hz1' : ((b.length : Int) - (j : Int) != (q2 : Int)) = false := by rw [bne_eq_false_iff_eq]; omega
      have HQ := Lib.hid hq
      clear hq
      go_upto_region 23 with fail
      obtain ⟨V, hV, hBV⟩ := cut_l (P := Try.prog) Try.underlying22 Try.size5 ao b.length cap j ha
      have hD : Bts W16 V (b.drop j) := Bts.drop (hBV W16 _ (hBw W16 P16.bel) (by simp))
      obtain ⟨ao2, cap2, rfl, -, -, -⟩ := hD.form
      have hC := clone2_any _ _ W16 hD (by rw [List.length_drop]; omega)
      simp only [List.length_drop] at hC hV
      clear hBV hD
      go_wp2_with fail
      refine hC.mono ?_
      rintro r W17 ⟨iv, rfl, hO17, hb17⟩
      obtain ⟨vo, vc, rfl, -, -⟩ := own_form hO17
      obtain ⟨dl, hdl⟩ : ∃ dl, dl = (b.drop j).length := ⟨_, rfl⟩
      rw [← hdl] at hO17 ⊢
      clear hdl
      have hM17 := hM.kt (KT.below hb17 _)
      have P17 := P16.keep hb17
      obtain ⟨hE, hPP, hes⟩ := HE.out
      have hE17 := hE.kt (KT.below hb17 _) (KT.below hb17 _)
      have hPP17 := hPP.kt (KT.below hb17 _)
      have f13 := hM17.froz 13
      have d13 : W17.cell? ⟨M, 13, none⟩ = some (.slice none 0 0) := hM17.at 13 _ rfl
      have P18 := P17.setM (i := 13) hNM (.slice vo dl vc)
      have hE18 := hE17.kt (KT.setM hM17 (by decide) 13 (.slice vo dl vc)) (KT.setM hM17 (by decide) 13 (.slice vo dl vc))
      have hPP18 := hPP17.kt (KT.setM hM17 (by decide) 13 (.slice vo dl vc))
      have hO18 := KT.own hO17 (KT.setM hM17 (T := 5) (by decide) 13 (.slice vo dl vc))
      have hM18 : Mr (W17.setCell ⟨M, 13, none⟩ (.slice vo dl vc)) M #[.int .i64 (k0 : Int), Ytlcnjinabfbglaa.u64 k1, Ytlcnjinabfbglaa.u64 k2, Ytlcnjinabfbglaa.u64 k3, .bool fp, .bool fo, Ytlcnjinabfbglaa.u64 k5, Ytlcnjinabfbglaa.u64 k6, Ytlcnjinabfbglaa.u64 k7, .slice eo xs.length ec, .slice po ps.length pc, Ytlcnjinabfbglaa.u64 q0, Ytlcnjinabfbglaa.u64 q1, .slice vo dl vc] := hM17.set 13 _
      clear hC hM P16 hE hPP HE hb17 P17 hE17 hPP17 hO17
      go_upto_region 24 with fail
      generalize W17.setCell ⟨M, 13, none⟩ (.slice vo dl vc) = W18 at *
      clear f13 d13 hM17
      have hN2 : Rp.Msg.N ⟨(k0 : Int), k1, k2, k3, fp, fo, k5, k6, k7, es, ps, q0, q1, b.drop j⟩ := by
        obtain ⟨g1, g2, g3, g5, g6, g7, gq0, gq1⟩ := HG.out
        refine ⟨Nat.lt_of_le_of_lt g1 (by decide), Nat.lt_of_le_of_lt g2 (by decide), Nat.lt_of_le_of_lt g3 (by decide), Nat.lt_of_le_of_lt g5 (by decide), Nat.lt_of_le_of_lt g6 (by decide), Nat.lt_of_le_of_lt g7 (by decide), Nat.lt_of_le_of_lt gq0 (by decide), Nat.lt_of_le_of_lt gq1 (by decide), ?_, hPP18.n64⟩
        intro e he
        rw [← hes] at he
        obtain ⟨x, hx, rfl⟩ := List.mem_map.1 he
        exact (hE18.bts x hx).2
      have hOk : MvOk W18 ⟨⟨(k0 : Int), k1, k2, k3, fp, fo, k5, k6, k7, es, ps, q0, q1, b.drop j⟩, .slice eo xs.length ec, .slice po ps.length pc, .slice vo dl vc, xs⟩ := ⟨hE18.ents, hPP18.nums, OwnB.bts hO18, hes, hN2, by simp only; omega, by simp only; omega⟩
      have hY := may_any _ W18 hOk
      unfold msgV at hY
      simp only at hY
      go_wp2_with (refine wpList_loadM rfl _ rfl hM18 rfl rfl ?_)
      refine hY.mono ?_
      rintro r W19 ⟨rfl, hb19⟩
      have hM19 := hM18.kt (KT.below hb19 _)
      have P19 := P18.keep hb19
      clear hY hM18 P18
      have hres := P19.res
      cases hmay : Rp.may ⟨(k0 : Int), k1, k2, k3, fp, fo, k5, k6, k7, es, ps, q0, q1, b.drop j⟩ with
      | false => as_aux_lemma =>
        have hR := HP.out
        try simp only at hR
        rw [if_neg (fun h => by rw [hmay] at h; exact absurd h.2 (by decide))] at hR
        subst hR
        clear HP HG
        go_upto_region 25 with fail
        go_wp2_with (refine wpList_storeM rfl _ _ rfl hres rfl rfl (by simp [Value.oneCell']) ?_; intro X mm hkt hbl)
        obtain ⟨m0, m1, m2, m3, m4, m5, m6, m7, m8, m9, m10, m11, m12, m13⟩ := cells14 mm
        exact bodyPost_ret (v := .tuple #[noMsg, .int .i64 4]) (by simp [results, Try.results42, go_sem, m0, m1, m2, m3, m4, m5, m6, m7, m8, m9, m10, m11, m12, m13]) rfl ⟨P19.bel.trans (hbl.mono (Nat.le_succ N)), rfl⟩
      | true => as_aux_lemma =>
        have hR := HP.out
        try simp only at hR
        rw [if_pos ⟨HQ.out, hmay⟩] at hR
        subst hR
        have hE19 := hE18.kt (KT.below hb19 _) (KT.below hb19 _)
        have hPP19 := hPP18.kt (KT.below hb19 _)
        have hO19 := KT.own hO18 (KT.below hb19 _)
        clear HP HG hE18 hPP18 hO18 hb19 hOk
        go_upto_region 26 with fail
        go_wp2_with (first | (refine wpList_loadM rfl _ rfl hM19 rfl rfl ?_) | (refine wpList_storeM rfl _ _ rfl hres rfl rfl (by simp [Value.oneCell']) ?_; intro X mm hkt hbl))
        obtain ⟨m0, m1, m2, m3, m4, m5, m6, m7, m8, m9, m10, m11, m12, m13⟩ := cells14 mm
        exact bodyPost_ret (v := .tuple #[.agg #[.int .i64 (k0 : Int), Ytlcnjinabfbglaa.u64 k1, Ytlcnjinabfbglaa.u64 k2, Ytlcnjinabfbglaa.u64 k3, .bool fp, .bool fo, Ytlcnjinabfbglaa.u64 k5, Ytlcnjinabfbglaa.u64 k6, Ytlcnjinabfbglaa.u64 k7, .slice eo xs.length ec, .slice po ps.length pc, Ytlcnjinabfbglaa.u64 q0, Ytlcnjinabfbglaa.u64 q1, .slice vo dl vc], .int .i64 0]) (by simp [results, Try.results42, go_sem, m0, m1, m2, m3, m4, m5, m6, m7, m8, m9, m10, m11, m12, m13]) rfl ⟨P19.bel.trans (hbl.mono (Nat.le_succ N)), ⟨⟨(k0 : Int), k1, k2, k3, fp, fo, k5, k6, k7, es, ps, q0, q1, b.drop j⟩, .slice eo xs.length ec, .slice po ps.length pc, .slice vo dl vc, xs⟩, rfl, ⟨(hE19.kt (hkt 79 (by decide)) (hkt 5 (by decide))).ents, (hPP19.kt (hkt 30 (by decide))).nums, OwnB.bts (KT.own hO19 (hkt 5 (by decide))), hes, hN2, by simp only; omega, by simp only; omega⟩, rfl⟩
    · as_aux_lemma =>
      have hR := HP.out
      simp only at hR
      rw [if_neg (fun h => hq h.1)] at hR
      subst hR
      have hz1 : ((b.length : Int) - (j : Int) == (q2 : Int)) = false := by rw [beq_eq_false_iff_ne]; omega
      have hz1' : ((b.length : Int) - (j : Int) != (q2 : Int)) = true := by rw [bne_iff_ne]; omega
      have hres := P16.res
      clear HP HG HE hM hq
      go_upto_region 22 with fail
      go_wp2_with (refine wpList_storeM rfl _ _ rfl hres rfl rfl (by simp [Value.oneCell']) ?_; intro X mm hkt hbl)
      obtain ⟨m0, m1, m2, m3, m4, m5, m6, m7, m8, m9, m10, m11, m12, m13⟩ := cells14 mm
      exact bodyPost_ret (v := .tuple #[noMsg, .int .i64 4]) (by simp [results, Try.results42, go_sem, m0, m1, m2, m3, m4, m5, m6, m7, m8, m9, m10, m11, m12, m13]) rfl ⟨P16.bel.trans (hbl.mono (Nat.le_succ N)), rfl⟩
end Go.Proofs.Ytlcnjinabfbglaa
