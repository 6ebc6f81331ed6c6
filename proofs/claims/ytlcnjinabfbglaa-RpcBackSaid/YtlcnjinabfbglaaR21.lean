/- The reference's Parse. -/
import Derived.Test.YtlcnjinabfbglaaR19
import Derived.Test.YtlcnjinabfbglaaR20
namespace Go.Proofs.Ytlcnjinabfbglaa
open Go.RowKit
/-- what the reference's parser has, ahead of the message -/
structure RS (N : Nat) (w : World) (v : Value) (b : List UInt8) (s : Option Nat) (W : World) : Prop where
  tk : TK (N + 1) v b s W
  res : Mr W N zC
  bel : Below N w W
theorem RS.keep {N : Nat} {w W W' : World} {v : Value} {b : List UInt8} {s : Option Nat} (h : RS N w v b s W) (hb : Below W.heap.size W W') : RS N w v b s W' :=
  ⟨h.tk.kt (KT.below hb _), h.res.kt (KT.below hb _), h.bel.trans (hb.mono (Nat.le_of_lt h.res.lt))⟩
theorem RS.setM {N i : Nat} {w W : World} {v : Value} {b : List UInt8} {s : Option Nat} (h : RS N w v b s W) {a : Array Value} (hM : Mr W (N + 2) a) (u : Value) : RS N w v b s (W.setCell ⟨N + 2, i, none⟩ u) :=
  ⟨h.tk.kt (KT.setM hM (by decide) i u), h.res.other _ (by simp only; omega) _, h.bel.setCell (p := ⟨N + 2, i, none⟩) (by simp only; omega) _⟩
theorem RS.lt {N : Nat} {w W : World} {v : Value} {b : List UInt8} {s : Option Nat} (h : RS N w v b s W) : N + 1 < W.heap.size := h.tk.lt
theorem RS.b {N : Nat} {w W W' : World} {v : Value} {b : List UInt8} {s : Option Nat} (h : RS N w v b s W) (hb : Below W.heap.size W W') : Below N w W' := (h.keep hb).bel
theorem RS.grown {N : Nat} {w W W' : World} {v : Value} {b : List UInt8} {s : Option Nat} (h : RS N w v b s W) (hb : Below (N + 2) W W') : RS N w v b s W' :=
  ⟨⟨(hb.block _ (by omega)).trans h.tk.row, h.tk.le⟩, (hb.block _ (by omega)).trans h.res, h.bel.trans (hb.mono (by omega))⟩
/-- a number that is taken -/
theorem rnum_ps (N : Nat) (v : Value) (b : List UInt8) (s s' : Option Nat) (n : Nat) (w W : World) (hP : RS N w v b s W) (hB : ∀ W', Below N w W' → Bts W' v b) (hl : b.length ≤ 1000000) (he : Rp.numO b Rp.any s = (n, s')) :
    Calls Try.prog 63 #[.pointer (some ⟨N + 1, 0, none⟩)] W fun r W' => r = .returned (u64 n) ∧ RS N w v b s' W' ∧ ∀ T : TypeId, T ≠ 88 → KT T W W' := by
  refine (rnum_tk (N + 1) v b s W hP.tk (fun W' h => hB W' (hP.b h)) hl).mono ?_
  rintro r W' ⟨h1, h2, h3, h4⟩
  rw [he] at h1 h2
  exact ⟨h1, ⟨h2, h4 62 (by decide) _ _ _ hP.res, hP.bel.trans (h3.mono (by omega))⟩, h4⟩
theorem rtext_ps (N : Nat) (v : Value) (b : List UInt8) (a : Nat) (w W : World) (hP : RS N w v b (some a) W) (hB : ∀ W', Below N w W' → Bts W' v b) (hl : b.length ≤ 1000000) (t : List UInt8) (s' : Option Nat) (ht : (match Pk.takeText b a with | none => [] | some p => p.1) = t) (hs : (match Pk.takeText b a with | none => none | some p => some p.2) = s') :
    Calls Try.prog 65 #[.pointer (some ⟨N + 1, 0, none⟩)] W fun r W' => r = .returned (.string ⟨t.toArray⟩) ∧ RS N w v b s' W' ∧ ∀ T : TypeId, T ≠ 88 → KT T W W' := by
  refine (rtext_tk (N + 1) v b a W hP.tk (fun W' h => hB W' (hP.b h)) hl).mono ?_
  rintro r W' ⟨h1, h2, h3, h4⟩
  subst ht hs
  exact ⟨h1, ⟨h2, h4 62 (by decide) _ _ _ hP.res, hP.bel.trans (h3.mono (by omega))⟩, h4⟩
theorem RS.start (w : World) (v : Value) (b : List UInt8) : RS w.heap.size w v b (some 0) (((w.alloc (.cells zC 62)).alloc (.cells #[v, .int .i64 0] 88)).alloc (.cells zC 62)) ∧ Mr (((w.alloc (.cells zC 62)).alloc (.cells #[v, .int .i64 0] 88)).alloc (.cells zC 62)) (w.heap.size + 2) zC := by
  have a1 := Below.al (Below.refl w.heap.size w) (.cells zC 62)
  have a2 := Below.al (Below.refl _ (w.alloc (.cells zC 62))) (.cells #[v, .int .i64 0] 88)
  have a3 := Below.al (Below.refl _ ((w.alloc (.cells zC 62)).alloc (.cells #[v, .int .i64 0] 88))) (.cells zC 62)
  have b1 : Mr (w.alloc (.cells zC 62)) w.heap.size zC := new_at _ _ _ rfl
  have b2 : ((w.alloc (.cells zC 62)).alloc (.cells #[v, .int .i64 0] 88)).heap[w.heap.size + 1]? = some (.cells #[v, .int .i64 0] 88 (0, 0)) := new_at _ _ _ (by simp)
  have b3 : Mr (((w.alloc (.cells zC 62)).alloc (.cells #[v, .int .i64 0] 88)).alloc (.cells zC 62)) (w.heap.size + 2) zC := new_at _ _ _ (by simp)
  exact ⟨⟨⟨KT.below a3 _ _ _ _ b2, fun a h => by obtain rfl := Option.some.inj h; exact Nat.zero_le _⟩, (b1.kt (KT.below a2 _)).kt (KT.below a3 _), Below.call (Below.call a1 a2) a3⟩, b3⟩
theorem numO_none' (b : List UInt8) (m : Nat) (s s' : Option Nat) (n : Nat) (h : Rp.numO b m s = (n, s')) (hs : s = none) : s' = none := by
  subst hs
  simp only [Rp.numO, Prod.mk.injEq] at h
  exact h.2.symm
theorem peersO_none (b : List UInt8) : ∀ (k : Nat) (s s' : Option Nat) (ns : List Nat), Rp.peersO b k s = (ns, s') → s = none → s' = none
  | 0, s, s', ns, h, hs => by simp only [Rp.peersO, Prod.mk.injEq] at h; rw [← h.2]; exact hs
  | k + 1, s, s', ns, h, hs => by
    subst hs
    rw [Rp.peersO] at h
    simp only [Rp.numO, Prod.mk.injEq] at h
    exact peersO_none b k none s' _ (Prod.ext rfl h.2) rfl
set_option maxRecDepth 100000 in
set_option maxHeartbeats 8000000 in
theorem refMsgParse_any (v : Value) (b : List UInt8) (w : World) (hB : Bts w v b) (hl : b.length ≤ 1000000) : Calls Try.prog 43 #[v] w fun r w' => ParseM w.heap.size w w' (Rp.refParse b) r := by
  obtain ⟨k0, s1, e0⟩ : ∃ k s, Rp.numO b Rp.any (some 0) = (k, s) := ⟨_, _, rfl⟩
  obtain ⟨k1, s2, e1⟩ : ∃ k s, Rp.numO b Rp.any (s1) = (k, s) := ⟨_, _, rfl⟩
  obtain ⟨k2, s3, e2⟩ : ∃ k s, Rp.numO b Rp.any (s2) = (k, s) := ⟨_, _, rfl⟩
  obtain ⟨k3, s4, e3⟩ : ∃ k s, Rp.numO b Rp.any (s3) = (k, s) := ⟨_, _, rfl⟩
  obtain ⟨k4, s5, e4⟩ : ∃ k s, Rp.numO b Rp.any (s4) = (k, s) := ⟨_, _, rfl⟩
  obtain ⟨k5, s6, e5⟩ : ∃ k s, Rp.numO b Rp.any (s5) = (k, s) := ⟨_, _, rfl⟩
  obtain ⟨k6, s7, e6⟩ : ∃ k s, Rp.numO b Rp.any (s6) = (k, s) := ⟨_, _, rfl⟩
  obtain ⟨k7, s8, e7⟩ : ∃ k s, Rp.numO b Rp.any (s7) = (k, s) := ⟨_, _, rfl⟩
  obtain ⟨k8, s9, e8⟩ : ∃ k s, Rp.numO b Rp.any (s8) = (k, s) := ⟨_, _, rfl⟩
  obtain ⟨es, s10, e9⟩ : ∃ k s, (if k8 ≤ 16 then Rp.entsO b k8 s9 else ([], s9)) = (k, s) := ⟨_, _, rfl⟩
  obtain ⟨kp, s11, e10⟩ : ∃ k s, Rp.numO b Rp.any s10 = (k, s) := ⟨_, _, rfl⟩
  obtain ⟨ps, s12, e11⟩ : ∃ k s, (if kp ≤ 7 then Rp.peersO b kp s11 else ([], s11)) = (k, s) := ⟨_, _, rfl⟩
  obtain ⟨q0, s13, e12⟩ : ∃ k s, Rp.numO b Rp.any s12 = (k, s) := ⟨_, _, rfl⟩
  obtain ⟨q1, s14, e13⟩ : ∃ k s, Rp.numO b Rp.any s13 = (k, s) := ⟨_, _, rfl⟩
  obtain ⟨q2, s15, e14⟩ : ∃ k s, Rp.numO b Rp.any s14 = (k, s) := ⟨_, _, rfl⟩
  have hP : Rp.refParse b = match (generalizing := false) s15 with
      | none => none
      | some j => if k0 ≤ 5 ∧ k4 ≤ 3 ∧ Rp.may ⟨(k0 : Nat), k1, k2, k3, decide (k4 % 2 = 1), decide (k4 / 2 = 1), k5, k6, k7, es, ps, q0, q1, b.drop j⟩ = true ∧ Rp.bytes ⟨(k0 : Nat), k1, k2, k3, decide (k4 % 2 = 1), decide (k4 / 2 = 1), k5, k6, k7, es, ps, q0, q1, b.drop j⟩ = b then some ⟨(k0 : Nat), k1, k2, k3, decide (k4 % 2 = 1), decide (k4 / 2 = 1), k5, k6, k7, es, ps, q0, q1, b.drop j⟩ else none := by
    have hA : Rp.numsO b [Rp.any, Rp.any, Rp.any, Rp.any, Rp.any, Rp.any, Rp.any, Rp.any, Rp.any] (some 0) = ([k0, k1, k2, k3, k4, k5, k6, k7, k8], s9) := by
      simp only [Rp.numsO, e0, e1, e2, e3, e4, e5, e6, e7, e8]
    have hr : Rp.rdR b = ⟨([k0, k1, k2, k3, k4, k5, k6, k7, k8], s9), (es, s10), (kp, s11), (ps, s12), ([q0, q1, q2], s15)⟩ := by
      unfold Rp.rdR
      rw [hA]
      simp only [List.getD_cons_succ, List.getD_cons_zero]
      simp only [Rp.numsO, e9, e10, e11, e12, e13, e14]
    unfold Rp.refParse
    rw [hr]
    rfl
  have hN15 : s12 = none → s15 = none := fun h => numO_none' _ _ _ _ _ e14 (numO_none' _ _ _ _ _ e13 (numO_none' _ _ _ _ _ e12 h))
  have hN12 : s11 = none → s12 = none := fun h => by
    by_cases h7 : kp ≤ 7
    · rw [if_pos h7] at e11
      exact peersO_none _ _ _ _ _ e11 h
    · rw [if_neg h7] at e11
      rw [← (Prod.mk.inj e11).2]
      exact h
  have hN10 : s10 = none → s11 = none := numO_none' _ _ _ _ _ e10
  have g0 := numO_le' _ _ _ _ _ e0
  have g1 := numO_le' _ _ _ _ _ e1
  have g2 := numO_le' _ _ _ _ _ e2
  have g3 := numO_le' _ _ _ _ _ e3
  have g4 := numO_le' _ _ _ _ _ e4
  have g5 := numO_le' _ _ _ _ _ e5
  have g6 := numO_le' _ _ _ _ _ e6
  have g7 := numO_le' _ _ _ _ _ e7
  have g8 := numO_le' _ _ _ _ _ e8
  have gp := numO_le' _ _ _ _ _ e10
  have gq0 := numO_le' _ _ _ _ _ e12
  have gq1 := numO_le' _ _ _ _ _ e13
  obtain ⟨R, hR⟩ : ∃ R, R = Rp.refParse b := ⟨_, rfl⟩
  rw [← hR]
  rw [hP] at hR
  have HN := Lib.hid (show s10 = none → R = none from fun h => by rw [hR, hN15 (hN12 (hN10 h))])
  have HP := Lib.hid hR
  have HG := Lib.hid (And.intro g1 (And.intro g2 (And.intro g3 (And.intro g5 (And.intro g6 (And.intro g7 (And.intro gq0 gq1)))))))
  have E9 := Lib.hid e9
  have E11 := Lib.hid e11
  have H15 := Lib.hid hN15
  clear hP hR g1 g2 g3 g5 g6 g7 gq0 gq1 e9 e11 hN15 hN12 hN10
  simp only [Rp.any] at g0 g4 g8 gp
  obtain ⟨ao, cap, rfl, -, -, -⟩ := hB.form
  obtain ⟨N, hN⟩ : ∃ N, w.heap.size = N := ⟨_, rfl⟩
  obtain ⟨P0, hM⟩ := RS.start w (.slice ao b.length cap) b
  have hBw : ∀ W', Below N w W' → Bts W' (.slice ao b.length cap) b := fun W' h => hB.keep (hN.symm ▸ h)
  rw [hN] at P0 hM ⊢
  clear hB
  go_enter Try.func43, Try.ntmps43
  go_upto_region 3 with fail
  simp only [Nat.add_assoc, Nat.reduceAdd]
  simp only [hN] at *
  generalize hW0 : (((w.alloc (.cells zC 62)).alloc (.cells #[.slice ao b.length cap, .int .i64 0] 88)).alloc (.cells zC 62)) = W0 at *
  have c := rnum_ps N _ b _ _ k0 w W0 P0 hBw hl e0
  go_wp2_with fail
  refine c.mono ?_
  rintro r W1 ⟨rfl, P1, hk⟩
  clear c P0
  replace hM := hM.kt (hk 62 (by decide))
  clear hk
  have c := rnum_ps N _ b _ _ k1 w W1 P1 hBw hl e1
  go_wp2_with fail
  refine c.mono ?_
  rintro r W2 ⟨rfl, P2, hk⟩
  clear c P1
  replace hM := hM.kt (hk 62 (by decide))
  clear hk
  have ff := hM.froz 1
  have dd : W2.cell? ⟨N + 2, 1, none⟩ = some (.int .u64 0) := hM.at 1 _ rfl
  have P' := P2.setM (i := 1) hM (Ytlcnjinabfbglaa.u64 k1)
  replace hM : Mr (W2.setCell ⟨N + 2, 1, none⟩ (Ytlcnjinabfbglaa.u64 k1)) (N + 2) #[.int .i64 0, Ytlcnjinabfbglaa.u64 k1, .int .u64 0, .int .u64 0, .bool false, .bool false, .int .u64 0, .int .u64 0, .int .u64 0, .slice none 0 0, .slice none 0 0, .int .u64 0, .int .u64 0, .slice none 0 0] := hM.set 1 (Ytlcnjinabfbglaa.u64 k1)
  clear P2
  have c := rnum_ps N _ b _ _ k2 w (W2.setCell ⟨N + 2, 1, none⟩ (Ytlcnjinabfbglaa.u64 k1)) P' hBw hl e2
  go_wp2_with fail
  refine c.mono ?_
  rintro r W3 ⟨rfl, P3, hk⟩
  clear c P' ff dd
  replace hM := hM.kt (hk 62 (by decide))
  clear hk
  have ff := hM.froz 2
  have dd : W3.cell? ⟨N + 2, 2, none⟩ = some (.int .u64 0) := hM.at 2 _ rfl
  have P' := P3.setM (i := 2) hM (Ytlcnjinabfbglaa.u64 k2)
  replace hM : Mr (W3.setCell ⟨N + 2, 2, none⟩ (Ytlcnjinabfbglaa.u64 k2)) (N + 2) #[.int .i64 0, Ytlcnjinabfbglaa.u64 k1, Ytlcnjinabfbglaa.u64 k2, .int .u64 0, .bool false, .bool false, .int .u64 0, .int .u64 0, .int .u64 0, .slice none 0 0, .slice none 0 0, .int .u64 0, .int .u64 0, .slice none 0 0] := hM.set 2 (Ytlcnjinabfbglaa.u64 k2)
  clear P3
  have c := rnum_ps N _ b _ _ k3 w (W3.setCell ⟨N + 2, 2, none⟩ (Ytlcnjinabfbglaa.u64 k2)) P' hBw hl e3
  go_wp2_with fail
  refine c.mono ?_
  rintro r W4 ⟨rfl, P4, hk⟩
  clear c P' ff dd
  replace hM := hM.kt (hk 62 (by decide))
  clear hk
  have ff := hM.froz 3
  have dd : W4.cell? ⟨N + 2, 3, none⟩ = some (.int .u64 0) := hM.at 3 _ rfl
  have P' := P4.setM (i := 3) hM (Ytlcnjinabfbglaa.u64 k3)
  replace hM : Mr (W4.setCell ⟨N + 2, 3, none⟩ (Ytlcnjinabfbglaa.u64 k3)) (N + 2) #[.int .i64 0, Ytlcnjinabfbglaa.u64 k1, Ytlcnjinabfbglaa.u64 k2, Ytlcnjinabfbglaa.u64 k3, .bool false, .bool false, .int .u64 0, .int .u64 0, .int .u64 0, .slice none 0 0, .slice none 0 0, .int .u64 0, .int .u64 0, .slice none 0 0] := hM.set 3 (Ytlcnjinabfbglaa.u64 k3)
  clear P4
  have c := rnum_ps N _ b _ _ k4 w (W4.setCell ⟨N + 2, 3, none⟩ (Ytlcnjinabfbglaa.u64 k3)) P' hBw hl e4
  go_wp2_with fail
  refine c.mono ?_
  rintro r W5 ⟨rfl, P5, hk⟩
  clear c P' ff dd
  replace hM := hM.kt (hk 62 (by decide))
  clear hk
  have c := rnum_ps N _ b _ _ k5 w W5 P5 hBw hl e5
  go_wp2_with fail
  refine c.mono ?_
  rintro r W6 ⟨rfl, P6, hk⟩
  clear c P5
  replace hM := hM.kt (hk 62 (by decide))
  clear hk
  have ff := hM.froz 6
  have dd : W6.cell? ⟨N + 2, 6, none⟩ = some (.int .u64 0) := hM.at 6 _ rfl
  have P' := P6.setM (i := 6) hM (Ytlcnjinabfbglaa.u64 k5)
  replace hM : Mr (W6.setCell ⟨N + 2, 6, none⟩ (Ytlcnjinabfbglaa.u64 k5)) (N + 2) #[.int .i64 0, Ytlcnjinabfbglaa.u64 k1, Ytlcnjinabfbglaa.u64 k2, Ytlcnjinabfbglaa.u64 k3, .bool false, .bool false, Ytlcnjinabfbglaa.u64 k5, .int .u64 0, .int .u64 0, .slice none 0 0, .slice none 0 0, .int .u64 0, .int .u64 0, .slice none 0 0] := hM.set 6 (Ytlcnjinabfbglaa.u64 k5)
  clear P6
  have c := rnum_ps N _ b _ _ k6 w (W6.setCell ⟨N + 2, 6, none⟩ (Ytlcnjinabfbglaa.u64 k5)) P' hBw hl e6
  go_wp2_with fail
  refine c.mono ?_
  rintro r W7 ⟨rfl, P7, hk⟩
  clear c P' ff dd
  replace hM := hM.kt (hk 62 (by decide))
  clear hk
  have ff := hM.froz 7
  have dd : W7.cell? ⟨N + 2, 7, none⟩ = some (.int .u64 0) := hM.at 7 _ rfl
  have P' := P7.setM (i := 7) hM (Ytlcnjinabfbglaa.u64 k6)
  replace hM : Mr (W7.setCell ⟨N + 2, 7, none⟩ (Ytlcnjinabfbglaa.u64 k6)) (N + 2) #[.int .i64 0, Ytlcnjinabfbglaa.u64 k1, Ytlcnjinabfbglaa.u64 k2, Ytlcnjinabfbglaa.u64 k3, .bool false, .bool false, Ytlcnjinabfbglaa.u64 k5, Ytlcnjinabfbglaa.u64 k6, .int .u64 0, .slice none 0 0, .slice none 0 0, .int .u64 0, .int .u64 0, .slice none 0 0] := hM.set 7 (Ytlcnjinabfbglaa.u64 k6)
  clear P7
  have c := rnum_ps N _ b _ _ k7 w (W7.setCell ⟨N + 2, 7, none⟩ (Ytlcnjinabfbglaa.u64 k6)) P' hBw hl e7
  go_wp2_with fail
  refine c.mono ?_
  rintro r W8 ⟨rfl, P8, hk⟩
  clear c P' ff dd
  replace hM := hM.kt (hk 62 (by decide))
  clear hk
  have ff := hM.froz 8
  have dd : W8.cell? ⟨N + 2, 8, none⟩ = some (.int .u64 0) := hM.at 8 _ rfl
  have P' := P8.setM (i := 8) hM (Ytlcnjinabfbglaa.u64 k7)
  replace hM : Mr (W8.setCell ⟨N + 2, 8, none⟩ (Ytlcnjinabfbglaa.u64 k7)) (N + 2) #[.int .i64 0, Ytlcnjinabfbglaa.u64 k1, Ytlcnjinabfbglaa.u64 k2, Ytlcnjinabfbglaa.u64 k3, .bool false, .bool false, Ytlcnjinabfbglaa.u64 k5, Ytlcnjinabfbglaa.u64 k6, Ytlcnjinabfbglaa.u64 k7, .slice none 0 0, .slice none 0 0, .int .u64 0, .int .u64 0, .slice none 0 0] := hM.set 8 (Ytlcnjinabfbglaa.u64 k7)
  clear P8
  have c := rnum_ps N _ b _ _ k8 w (W8.setCell ⟨N + 2, 8, none⟩ (Ytlcnjinabfbglaa.u64 k7)) P' hBw hl e8
  go_wp2_with fail
  refine c.mono ?_
  rintro r W9 ⟨rfl, P9, hk⟩
  clear c P' ff dd
  replace hM := hM.kt (hk 62 (by decide))
  clear hk
  go_upto_block 0 with fail
  go_cut [9,10,11] (fun u9 u10 u11 wx => ∃ ev xs, RS N w (.slice ao b.length cap) b s10 wx ∧ Mr wx (N + 2) #[.int .i64 0, Ytlcnjinabfbglaa.u64 k1, Ytlcnjinabfbglaa.u64 k2, Ytlcnjinabfbglaa.u64 k3, .bool false, .bool false, Ytlcnjinabfbglaa.u64 k5, Ytlcnjinabfbglaa.u64 k6, Ytlcnjinabfbglaa.u64 k7, ev, .slice none 0 0, .int .u64 0, .int .u64 0, .slice none 0 0] ∧ EE (N + 3) wx ev xs ∧ xs.map EV.ent = es)
  case first =>
    by_cases h16 : k8 ≤ 16
    · have e9 := E9.out
      rw [if_pos h16] at e9
      have h16' : (k8 : Int) ≤ 16 := by omega
      go_wp2_with fail
      go_loopw [9,10,11] (fun i u10 u11 wr => ∃ (k : Nat) (s : Option Nat) (ev : Value) (xs : List EV) (rest : List Rp.Ent), k ≤ k8 ∧ i = .int .u64 (k : Int) ∧ RS N w (.slice ao b.length cap) b s wr ∧ Mr wr (N + 2) #[.int .i64 0, Ytlcnjinabfbglaa.u64 k1, Ytlcnjinabfbglaa.u64 k2, Ytlcnjinabfbglaa.u64 k3, .bool false, .bool false, Ytlcnjinabfbglaa.u64 k5, Ytlcnjinabfbglaa.u64 k6, Ytlcnjinabfbglaa.u64 k7, ev, .slice none 0 0, .int .u64 0, .int .u64 0, .slice none 0 0] ∧ EE (N + 3) wr ev xs ∧ xs.length = k ∧ Rp.entsO b (k8 - k) s = (rest, s10) ∧ xs.map EV.ent ++ rest = es) (fun i u10 u11 _ => k8 - (intOf i).toNat)
      case atStart => exact ⟨0, s9, .slice none 0 0, [], es, Nat.zero_le _, rfl, P9, hM, EE.nil _ _, rfl, e9, rfl⟩
      case round =>
        clear P9 hM e9
        obtain ⟨k, s, ev, xs, rest, hk, rfl, P, hM, hE, hxl, he, hes⟩ := hrel
        subst hxl
        by_cases hlt : xs.length < k8
        · have hlt' : (xs.length : Int) < (k8 : Int) := by omega
          obtain ⟨m, hm⟩ : ∃ m, k8 - xs.length = m + 1 := ⟨k8 - xs.length - 1, by omega⟩
          rw [hm] at he
          cases s with
          | none => as_aux_lemma =>
            rw [Rp.entsO] at he
            simp only [Prod.mk.injEq] at he
            obtain ⟨rfl, rfl⟩ := he
            have c1 : wr.cell? ⟨N + 1, 1, none⟩ = some (.int .i64 (-1)) := P.tk.c1
            clear HP HN hm
            go_wp2_with fail
            go_meet
            exact ⟨ev, xs, P, hM, hE, by simpa using hes⟩
          | some a =>
            have c1 : wr.cell? ⟨N + 1, 1, none⟩ = some (.int .i64 (a : Int)) := P.tk.c1
            have h0a : (0 : Int) ≤ (a : Int) := by omega
            rw [Rp.entsO] at he
            cases ht : Pk.takeText b a with
            | none => as_aux_lemma =>
              rw [ht] at he
              simp only [Prod.mk.injEq] at he
              obtain ⟨rfl, rfl⟩ := he
              have hR := HN.out rfl
              subst hR
              have t1 := rtext_ps N _ b a w wr P hBw hl [] none (by rw [ht]) (by rw [ht])
              clear HP HN hm ht hM hE hes E11
              go_upto_region 17 with (first
                | (go_at_call 65; refine t1.mono ?_; rintro e w1 ⟨rfl, P1, -⟩; obtain ⟨c, X, hcv, hBX, hbX⟩ := conv_bytes w1 [] (by simp); have hW := refWalParse_any _ [] X hBX (by simp); unfold ParseE at hW; rw [parseE_1 [] (by rfl)] at hW; simp only at hW)
                | (go_at_call 64; refine hW.mono ?_; rintro e2 w2 ⟨hb2, rfl⟩; have hbY := (Below.al (hbX.trans (hb2.mono hbX.size)) (.cells #[.int .u64 0, .int .u64 0, .slice none 0 0] 79)); have PY := P1.keep hbY; have hres := PY.res))
              go_wp2_with (refine wpList_storeM rfl _ _ rfl hres rfl rfl (by simp [Value.oneCell']) ?_; intro X2 mm hkt hbl)
              obtain ⟨m0, m1, m2, m3, m4, m5, m6, m7, m8, m9, m10, m11, m12, m13⟩ := cells14 mm
              exact bodyPost_ret (v := .tuple #[noMsg, .int .i64 4]) (by simp [results, Try.results43, go_sem, m0, m1, m2, m3, m4, m5, m6, m7, m8, m9, m10, m11, m12, m13]) rfl ⟨PY.bel.trans hbl, rfl⟩
            | some p =>
              obtain ⟨t, j⟩ := p
              obtain ⟨-, htl, haj, -⟩ := Pk.takeText_canon b a j t ht
              rw [ht] at he
              simp only at he
              have t1 := rtext_ps N _ b a w wr P hBw hl t (some j) (by rw [ht]) (by rw [ht])
              cases hp : Rp.parseE t with
              | none => as_aux_lemma =>
                rw [hp] at he
                simp only [Prod.mk.injEq] at he
                obtain ⟨rfl, rfl⟩ := he
                have hR := HN.out rfl
                subst hR
                clear HP HN hm ht hM hE hes E11
                go_upto_region 17 with (first
                  | (go_at_call 65; refine t1.mono ?_; rintro e w1 ⟨rfl, P1, -⟩; obtain ⟨c, X, hcv, hBX, hbX⟩ := conv_bytes w1 t (by omega); have hW := refWalParse_any _ t X hBX (by omega); unfold ParseE at hW; rw [hp] at hW; simp only at hW)
                  | (go_at_call 64; refine hW.mono ?_; rintro e2 w2 ⟨hb2, rfl⟩; have hbY := (Below.al (hbX.trans (hb2.mono hbX.size)) (.cells #[.int .u64 0, .int .u64 0, .slice none 0 0] 79)); have PY := P1.keep hbY; have hres := PY.res))
                go_wp2_with (refine wpList_storeM rfl _ _ rfl hres rfl rfl (by simp [Value.oneCell']) ?_; intro X2 mm hkt hbl)
                obtain ⟨m0, m1, m2, m3, m4, m5, m6, m7, m8, m9, m10, m11, m12, m13⟩ := cells14 mm
                exact bodyPost_ret (v := .tuple #[noMsg, .int .i64 4]) (by simp [results, Try.results43, go_sem, m0, m1, m2, m3, m4, m5, m6, m7, m8, m9, m10, m11, m12, m13]) rfl ⟨PY.bel.trans hbl, rfl⟩
              | some e =>
                rw [hp] at he
                simp only [Prod.mk.injEq] at he
                obtain ⟨hrest, hs10⟩ := he
                have hen := (Rp.parseE_some t e hp).2.2
                have HF := Lib.hid (And.intro hrest (And.intro hs10 (And.intro hes hm)))
                clear HP HN hm ht hrest hs10 hes E11 P
                go_upto_region 18 with (first
                  | (go_at_call 65; refine t1.mono ?_; rintro e1 w1 ⟨rfl, P1, hk1⟩; obtain ⟨c, X, hcv, hBX, hbX⟩ := conv_bytes w1 t (by omega); have hW := refWalParse_any _ t X hBX (by omega); unfold ParseE at hW; rw [hp] at hW; simp only at hW)
                  | (go_at_call 64; refine hW.mono ?_; rintro e2 w2 ⟨hb2, bv, rfl, hbt2⟩; obtain ⟨vo, vc, rfl, -⟩ := Bts.form hbt2.1; have hbY := (Below.al (hbX.trans (hb2.mono hbX.size)) (.cells #[Ytlcnjinabfbglaa.u64 e.idx, Ytlcnjinabfbglaa.u64 e.term, .slice vo e.body.length vc] 79)); have PY := P1.keep hbY))
                have hbw := (hbX.trans (hb2.mono hbX.size))
                have hM1 := hM.kt (hk1 62 (by decide))
                have hMY := hM1.kt (KT.below hbY _)
                have hEY := (hE.kt (hk1 79 (by decide)) (hk1 5 (by decide))).kt (KT.below hbY _) (KT.below hbY _)
                have hbtY := hbt2.k5 (KT.k5 (KT.below (Below.al (Below.refl w2.heap.size w2) (.cells #[Ytlcnjinabfbglaa.u64 e.idx, Ytlcnjinabfbglaa.u64 e.term, .slice vo e.body.length vc] 79)) 5))
                have hY : (w2.alloc (.cells #[Ytlcnjinabfbglaa.u64 e.idx, Ytlcnjinabfbglaa.u64 e.term, .slice vo e.body.length vc] 79)).heap[w2.heap.size]? = some (.cells #[Ytlcnjinabfbglaa.u64 e.idx, Ytlcnjinabfbglaa.u64 e.term, .slice vo e.body.length vc] 79 (0, 0)) := new_at _ _ _ rfl
                have hMs : N + 3 ≤ (w2.alloc (.cells #[Ytlcnjinabfbglaa.u64 e.idx, Ytlcnjinabfbglaa.u64 e.term, .slice vo e.body.length vc] 79)).heap.size := hMY.lt
                clear hbt2 hb2 hbX hBX hcv hW hbY hbw t1 hE hM hM1 hk1 P1 c1 hp
                generalize w2.alloc (.cells #[Ytlcnjinabfbglaa.u64 e.idx, Ytlcnjinabfbglaa.u64 e.term, .slice vo e.body.length vc] 79) = Y at *
                generalize w2.heap.size = yb at *
                obtain ⟨y0, y1, y2⟩ := cells3 hY
                obtain ⟨eo, ec, rfl⟩ := hEY.form
                have m9 : Y.cell? ⟨N + 2, 9, none⟩ = some (.slice eo xs.length ec) := hMY.at 9 _ rfl
                go_wp2_with (at_builtin; refine wpList_appE Y rfl _ _ rfl (N + 3) hEY ⟨e.idx, e.term, .slice vo e.body.length vc, e.body⟩ hbtY hen vo e.body.length vc rfl rfl rfl (by omega) hMs ?_; intro v' Z hE' hb' hk'; obtain ⟨eo', ec', hev'⟩ := hE'.form; rw [List.length_append, List.length_singleton] at hev'; subst hev'; have hM' := hMY.kt (hk' 62 (by decide)); have z9 : Z.cell? ⟨N + 2, 9, none⟩ = some (.slice eo xs.length ec) := hM'.at 9 _ rfl; have zf := hM'.froz 9; have P' := PY.grown (hb'.mono (by omega)))
                obtain ⟨hrest, hs10, hes, hm⟩ := HF.out
                refine ⟨⟨xs.length + 1, some j, .slice eo' (xs.length + 1) ec', xs ++ [⟨e.idx, e.term, .slice vo e.body.length vc, e.body⟩], (Rp.entsO b m (some j)).1, by omega, by go_num, P'.setM hM' _, hM'.set 9 _, hE'.kt (KT.setM hM' (by decide) 9 _) (KT.setM hM' (by decide) 9 _), by simp, ?_, ?_⟩, by simp [intOf]; omega⟩
                · rw [show k8 - (xs.length + 1) = m by omega, ← hs10]
                · rw [List.map_append, List.append_assoc, ← hes, ← hrest]
                  rfl
        · obtain rfl : xs.length = k8 := by omega
          as_aux_lemma =>
          rw [Nat.sub_self, Rp.entsO] at he
          simp only [Prod.mk.injEq] at he
          obtain ⟨rfl, rfl⟩ := he
          clear hlt HP HN
          go_wp2_with fail
          go_meet
          exact ⟨ev, xs, P, hM, hE, by simpa using hes⟩
    · as_aux_lemma =>
      have e9 := E9.out
      rw [if_neg h16] at e9
      simp only [Prod.mk.injEq] at e9
      obtain ⟨rfl, rfl⟩ := e9
      have h16' : ¬ (k8 : Int) ≤ 16 := by omega
      have h0k : (0 : Int) < (k8 : Int) := by omega
      clear h16 HP HN
      go_wp2_with fail
      go_loopw [9,10,11] (fun i u10 u11 wr => i = .int .u64 0 ∧ wr = W9) (fun i u10 u11 _ => 0)
      case atStart => exact ⟨rfl, rfl⟩
      case round =>
        obtain ⟨rfl, rfl⟩ := hrel
        go_wp2_with fail
        go_meet
        exact ⟨.slice none 0 0, [], P9, hM, EE.nil _ _, rfl⟩
  case rest =>
  clear P9 hM
  obtain ⟨ev, xs, P20, hM, hE, hes⟩ := hcut
  obtain ⟨eo, ec, rfl⟩ := hE.form
  have c := rnum_ps N _ b _ _ kp w wc P20 hBw hl e10
  go_wp2_with fail
  refine c.mono ?_
  rintro r W10 ⟨rfl, P10, hk⟩
  clear c P20
  replace hM := hM.kt (hk 62 (by decide))
  replace hE := hE.kt (hk 79 (by decide)) (hk 5 (by decide))
  clear hk
  go_upto_block 2 with fail
  go_cut [12] (fun u12 wx => ∃ pv ps', RS N w (.slice ao b.length cap) b s12 wx ∧ Mr wx (N + 2) #[.int .i64 0, Ytlcnjinabfbglaa.u64 k1, Ytlcnjinabfbglaa.u64 k2, Ytlcnjinabfbglaa.u64 k3, .bool false, .bool false, Ytlcnjinabfbglaa.u64 k5, Ytlcnjinabfbglaa.u64 k6, Ytlcnjinabfbglaa.u64 k7, .slice eo xs.length ec, pv, .int .u64 0, .int .u64 0, .slice none 0 0] ∧ EE (N + 3) wx (.slice eo xs.length ec) xs ∧ PP (N + 3) wx pv ps' ∧ (s12 ≠ none → ps' = ps))
  case first =>
    by_cases h7 : kp ≤ 7
    · have e11 := E11.out
      rw [if_pos h7] at e11
      have h7' : (kp : Int) ≤ 7 := by omega
      go_wp2_with fail
      go_loopw [12] (fun i wr => ∃ (k : Nat) (s : Option Nat) (pv : Value) (ns rest : List Nat), k ≤ kp ∧ i = .int .u64 (k : Int) ∧ RS N w (.slice ao b.length cap) b s wr ∧ Mr wr (N + 2) #[.int .i64 0, Ytlcnjinabfbglaa.u64 k1, Ytlcnjinabfbglaa.u64 k2, Ytlcnjinabfbglaa.u64 k3, .bool false, .bool false, Ytlcnjinabfbglaa.u64 k5, Ytlcnjinabfbglaa.u64 k6, Ytlcnjinabfbglaa.u64 k7, .slice eo xs.length ec, pv, .int .u64 0, .int .u64 0, .slice none 0 0] ∧ EE (N + 3) wr (.slice eo xs.length ec) xs ∧ PP (N + 3) wr pv ns ∧ ns.length = k ∧ Rp.peersO b (kp - k) s = (rest, s12) ∧ ns ++ rest = ps) (fun i _ => kp - (intOf i).toNat)
      case atStart => exact ⟨0, s11, .slice none 0 0, [], ps, Nat.zero_le _, rfl, P10, hM, hE, PP.nil _ _, rfl, e11, rfl⟩
      case round =>
        clear P10 hM hE e11
        obtain ⟨k, s, pv, ns, rest, hk, rfl, P, hM, hE, hPP, hnl, he, hps⟩ := hrel
        subst hnl
        by_cases hlt : ns.length < kp
        · have hlt' : (ns.length : Int) < (kp : Int) := by omega
          cases s with
          | none => as_aux_lemma =>
            obtain rfl := peersO_none _ _ _ _ _ he rfl
            have c1 : wr.cell? ⟨N + 1, 1, none⟩ = some (.int .i64 (-1)) := P.tk.c1
            clear HP HN he
            go_wp2_with fail
            go_meet
            exact ⟨pv, ns, P, hM, hE, hPP, fun h => absurd rfl h⟩
          | some a =>
            have c1 : wr.cell? ⟨N + 1, 1, none⟩ = some (.int .i64 (a : Int)) := P.tk.c1
            have h0a : (0 : Int) ≤ (a : Int) := by omega
            obtain ⟨m, hm⟩ : ∃ m, kp - ns.length = m + 1 := ⟨kp - ns.length - 1, by omega⟩
            rw [hm, Rp.peersO] at he
            obtain ⟨n, s', en⟩ : ∃ n s', Rp.numO b Rp.any (some a) = (n, s') := ⟨_, _, rfl⟩
            rw [show (18446744073709551615 : Nat) = Rp.any from rfl, en] at he
            simp only [Prod.mk.injEq] at he
            obtain ⟨hrest, hs12⟩ := he
            have hn64 : Rp.N64 n := Nat.lt_of_le_of_lt (numO_le' _ _ _ _ _ en) (by decide)
            have HF := Lib.hid (And.intro hrest (And.intro hs12 (And.intro hps hm)))
            clear hrest hs12 hps hm HP HN
            obtain ⟨po, pc, rfl⟩ := hPP.form
            have hbd := (Below.refl wr.heap.size wr).drew
            go_wp2_with fail
            refine wp_region_held_drew (S := fun _ => True) (by kernel_rfl) trivial (fun h0 => ?_)
            replace P := P.keep hbd
            replace hM := hM.kt (KT.below hbd _)
            replace hE := hE.kt (KT.below hbd _) (KT.below hbd _)
            replace hPP := hPP.kt (KT.below hbd _)
            clear hbd c1
            generalize wr.drew = X at *
            refine wpAnyH_take (i := 0) (oi := { dst := _, op := _, type := _, pos := _, after := _, guard := _ }) (v := ?vz0) rfl (by kernel_rfl) (by kernel_rfl) (by kernel_rfl) (fun _ _ _ h => h) (Or.inl ⟨by rfl, ?yz0⟩) (by trivial) ?rz0; (case yz0 => intro w hSw; go_simp <;> with_reducible rfl); simp only [Act.put, List.setIfInBounds_toArray, List.set_cons_zero, List.set_cons_succ]
            refine wpAnyH_take (i := 2) (oi := { dst := _, op := _, type := _, pos := _, after := _, guard := _ }) (v := ?vz2) rfl (by kernel_rfl) (by kernel_rfl) (by kernel_rfl) (fun _ _ _ h => h) (Or.inl ⟨by rfl, ?yz2⟩) (by trivial) ?rz2; (case yz2 => intro w hSw; go_simp <;> with_reducible rfl); simp only [Act.put, List.setIfInBounds_toArray, List.set_cons_zero, List.set_cons_succ]
            refine wpAnyH_ready (rs := [1, 3]) (by kernel_rfl) (by simp) ?_
            refine AllReadyH.cons (o := { dst := _, op := _, type := _, pos := _, after := _, guard := _ }) rfl (fun K hK => ?_) (AllReadyH.cons (o := { dst := _, op := _, type := _, pos := _, after := _, guard := _ }) rfl (fun K hK => ?_) AllReadyH.nil)
            focus
              have l1 : X.cell? ⟨N + 2, 10, none⟩ = some (.slice po ns.length pc) := hM.at 10 _ rfl
              go_simp
              refine hK.out _ _ trivial (fun _ => ?_)
              clear hK K
              refine wpAnyH_ready (rs := [3]) (by kernel_rfl) (by simp) ?_
              refine AllReadyH.cons (o := { dst := _, op := _, type := _, pos := _, after := _, guard := _ }) rfl (fun K hK => ?_) AllReadyH.nil
              go_simp
              refine (rnum_ps N _ b _ _ n w X P hBw hl en).mono ?_
              rintro e x1 ⟨rfl, P1, hk⟩
              have hM1 := hM.kt (hk 62 (by decide))
              have hE1 := hE.kt (hk 79 (by decide)) (hk 5 (by decide))
              have hP1 := hPP.kt (hk 30 (by decide))
              have hs1 : N + 3 ≤ x1.heap.size := hM1.lt
              refine hK.out _ _ trivial (fun _ => ?_)
              clear hK K
              refine wpAnyH_ready (rs := [4]) (by kernel_rfl) (by simp) ?_
              refine AllReadyH.cons (o := { dst := _, op := _, type := _, pos := _, after := _, guard := _ }) rfl (fun K hK => ?_) AllReadyH.nil
              go_simp
              refine hK.out _ _ trivial (fun _ => ?_)
              clear hK K
              refine wpAnyH_ready (rs := [5]) (by kernel_rfl) (by simp) ?_
              refine AllReadyH.cons (o := { dst := _, op := _, type := _, pos := _, after := _, guard := _ }) rfl (fun K hK => ?_) AllReadyH.nil
              refine wp_appP x1 _ _ rfl (N + 3) hP1 n hn64 rfl rfl (by omega) hs1 ?_
              intro v' Z hpp hb' hk'
              obtain ⟨po', pc', hpv'⟩ := hpp.form
              rw [List.length_append, List.length_singleton] at hpv'
              subst hpv'
              simp only [Act.put, List.setIfInBounds_toArray, List.set_cons_zero, List.set_cons_succ]
              refine hK.out _ _ trivial (fun _ => ?_)
              clear hK K
              refine wpAnyH_take (i := 6) (oi := { dst := _, op := _, type := _, pos := _, after := _, guard := _ }) (v := ?va6) rfl (by kernel_rfl) (by kernel_rfl) (by kernel_rfl) (fun _ _ _ h => h) (Or.inl ⟨by rfl, ?ya6⟩) (by trivial) ?ra6; (case ya6 => intro w hSw; go_simp <;> with_reducible rfl); simp only [Act.put, List.setIfInBounds_toArray, List.set_cons_zero, List.set_cons_succ]
              refine wpAnyH_ready (rs := [7]) (by kernel_rfl) (by simp) ?_
              refine AllReadyH.cons (o := { dst := _, op := _, type := _, pos := _, after := _, guard := _ }) rfl (fun K hK => ?_) AllReadyH.nil
              have hM2 := hM1.kt (hk' 62 (by decide))
              have fr := hM2.froz 10
              have fc : Z.cell? ⟨N + 2, 10, none⟩ = some (.slice po ns.length pc) := hM2.at 10 _ rfl
              go_simp
              refine hK.out _ _ trivial (fun _ => ?_)
              clear hK K
              refine wpAnyH_done (by kernel_rfl) ?_ _
              go_wp2_with fail
              obtain ⟨hrest, hs12, hps, hm⟩ := HF.out
              refine ⟨⟨ns.length + 1, s', .slice po' (ns.length + 1) pc', ns ++ [n], (Rp.peersO b m s').1, by omega, by go_num, (P1.grown (hb'.mono (by omega))).setM hM2 _, hM2.set 10 _, (hE1.kt (hk' 79 (by decide)) (hk' 5 (by decide))).kt (KT.setM hM2 (by decide) 10 _) (KT.setM hM2 (by decide) 10 _), hpp.kt (KT.setM hM2 (by decide) 10 _), by simp, ?_, ?_⟩, by simp [intOf]; omega⟩
              · rw [show kp - (ns.length + 1) = m by omega, ← hs12]
              · rw [List.append_assoc, ← hps, ← hrest]
                rfl
            focus
              go_simp
              refine (rnum_ps N _ b _ _ n w X P hBw hl en).mono ?_
              rintro e x1 ⟨rfl, P1, hk⟩
              have hM1 := hM.kt (hk 62 (by decide))
              have hE1 := hE.kt (hk 79 (by decide)) (hk 5 (by decide))
              have hP1 := hPP.kt (hk 30 (by decide))
              have hs1 : N + 3 ≤ x1.heap.size := hM1.lt
              refine hK.out _ _ trivial (fun _ => ?_)
              clear hK K
              refine wpAnyH_ready (rs := [1, 4]) (by kernel_rfl) (by simp) ?_
              refine AllReadyH.cons (o := { dst := _, op := _, type := _, pos := _, after := _, guard := _ }) rfl (fun K hK => ?_) (AllReadyH.cons (o := { dst := _, op := _, type := _, pos := _, after := _, guard := _ }) rfl (fun K hK => ?_) AllReadyH.nil)
              focus
                have l1 : x1.cell? ⟨N + 2, 10, none⟩ = some (.slice po ns.length pc) := hM1.at 10 _ rfl
                go_simp
                refine hK.out _ _ trivial (fun _ => ?_)
                clear hK K
                refine wpAnyH_ready (rs := [4]) (by kernel_rfl) (by simp) ?_
                refine AllReadyH.cons (o := { dst := _, op := _, type := _, pos := _, after := _, guard := _ }) rfl (fun K hK => ?_) AllReadyH.nil
                go_simp
                refine hK.out _ _ trivial (fun _ => ?_)
                clear hK K
                refine wpAnyH_ready (rs := [5]) (by kernel_rfl) (by simp) ?_
                refine AllReadyH.cons (o := { dst := _, op := _, type := _, pos := _, after := _, guard := _ }) rfl (fun K hK => ?_) AllReadyH.nil
                refine wp_appP x1 _ _ rfl (N + 3) hP1 n hn64 rfl rfl (by omega) hs1 ?_
                intro v' Z hpp hb' hk'
                obtain ⟨po', pc', hpv'⟩ := hpp.form
                rw [List.length_append, List.length_singleton] at hpv'
                subst hpv'
                simp only [Act.put, List.setIfInBounds_toArray, List.set_cons_zero, List.set_cons_succ]
                refine hK.out _ _ trivial (fun _ => ?_)
                clear hK K
                refine wpAnyH_take (i := 6) (oi := { dst := _, op := _, type := _, pos := _, after := _, guard := _ }) (v := ?vb6) rfl (by kernel_rfl) (by kernel_rfl) (by kernel_rfl) (fun _ _ _ h => h) (Or.inl ⟨by rfl, ?yb6⟩) (by trivial) ?rb6; (case yb6 => intro w hSw; go_simp <;> with_reducible rfl); simp only [Act.put, List.setIfInBounds_toArray, List.set_cons_zero, List.set_cons_succ]
                refine wpAnyH_ready (rs := [7]) (by kernel_rfl) (by simp) ?_
                refine AllReadyH.cons (o := { dst := _, op := _, type := _, pos := _, after := _, guard := _ }) rfl (fun K hK => ?_) AllReadyH.nil
                have hM2 := hM1.kt (hk' 62 (by decide))
                have fr := hM2.froz 10
                have fc : Z.cell? ⟨N + 2, 10, none⟩ = some (.slice po ns.length pc) := hM2.at 10 _ rfl
                go_simp
                refine hK.out _ _ trivial (fun _ => ?_)
                clear hK K
                refine wpAnyH_done (by kernel_rfl) ?_ _
                go_wp2_with fail
                obtain ⟨hrest, hs12, hps, hm⟩ := HF.out
                refine ⟨⟨ns.length + 1, s', .slice po' (ns.length + 1) pc', ns ++ [n], (Rp.peersO b m s').1, by omega, by go_num, (P1.grown (hb'.mono (by omega))).setM hM2 _, hM2.set 10 _, (hE1.kt (hk' 79 (by decide)) (hk' 5 (by decide))).kt (KT.setM hM2 (by decide) 10 _) (KT.setM hM2 (by decide) 10 _), hpp.kt (KT.setM hM2 (by decide) 10 _), by simp, ?_, ?_⟩, by simp [intOf]; omega⟩
                · rw [show kp - (ns.length + 1) = m by omega, ← hs12]
                · rw [List.append_assoc, ← hps, ← hrest]
                  rfl
              focus
                go_simp
                refine hK.out _ _ trivial (fun _ => ?_)
                clear hK K
                refine wpAnyH_ready (rs := [1]) (by kernel_rfl) (by simp) ?_
                refine AllReadyH.cons (o := { dst := _, op := _, type := _, pos := _, after := _, guard := _ }) rfl (fun K hK => ?_) AllReadyH.nil
                have l1 : (x1.alloc (.cells #[Ytlcnjinabfbglaa.u64 n] 30)).cell? ⟨N + 2, 10, none⟩ = some (.slice po ns.length pc) := (hM1.kt (KT.below (Below.al (Below.refl x1.heap.size x1) _) _)).at 10 _ rfl
                go_simp
                refine hK.out _ _ trivial (fun _ => ?_)
                clear hK K
                refine wpAnyH_ready (rs := [5]) (by kernel_rfl) (by simp) ?_
                refine AllReadyH.cons (o := { dst := _, op := _, type := _, pos := _, after := _, guard := _ }) rfl (fun K hK => ?_) AllReadyH.nil
                refine wp_appP x1 _ _ rfl (N + 3) hP1 n hn64 rfl rfl (by omega) hs1 ?_
                intro v' Z hpp hb' hk'
                obtain ⟨po', pc', hpv'⟩ := hpp.form
                rw [List.length_append, List.length_singleton] at hpv'
                subst hpv'
                simp only [Act.put, List.setIfInBounds_toArray, List.set_cons_zero, List.set_cons_succ]
                refine hK.out _ _ trivial (fun _ => ?_)
                clear hK K
                refine wpAnyH_take (i := 6) (oi := { dst := _, op := _, type := _, pos := _, after := _, guard := _ }) (v := ?vc6) rfl (by kernel_rfl) (by kernel_rfl) (by kernel_rfl) (fun _ _ _ h => h) (Or.inl ⟨by rfl, ?yc6⟩) (by trivial) ?rc6; (case yc6 => intro w hSw; go_simp <;> with_reducible rfl); simp only [Act.put, List.setIfInBounds_toArray, List.set_cons_zero, List.set_cons_succ]
                refine wpAnyH_ready (rs := [7]) (by kernel_rfl) (by simp) ?_
                refine AllReadyH.cons (o := { dst := _, op := _, type := _, pos := _, after := _, guard := _ }) rfl (fun K hK => ?_) AllReadyH.nil
                have hM2 := hM1.kt (hk' 62 (by decide))
                have fr := hM2.froz 10
                have fc : Z.cell? ⟨N + 2, 10, none⟩ = some (.slice po ns.length pc) := hM2.at 10 _ rfl
                go_simp
                refine hK.out _ _ trivial (fun _ => ?_)
                clear hK K
                refine wpAnyH_done (by kernel_rfl) ?_ _
                go_wp2_with fail
                obtain ⟨hrest, hs12, hps, hm⟩ := HF.out
                refine ⟨⟨ns.length + 1, s', .slice po' (ns.length + 1) pc', ns ++ [n], (Rp.peersO b m s').1, by omega, by go_num, (P1.grown (hb'.mono (by omega))).setM hM2 _, hM2.set 10 _, (hE1.kt (hk' 79 (by decide)) (hk' 5 (by decide))).kt (KT.setM hM2 (by decide) 10 _) (KT.setM hM2 (by decide) 10 _), hpp.kt (KT.setM hM2 (by decide) 10 _), by simp, ?_, ?_⟩, by simp [intOf]; omega⟩
                · rw [show kp - (ns.length + 1) = m by omega, ← hs12]
                · rw [List.append_assoc, ← hps, ← hrest]
                  rfl
        · obtain rfl : ns.length = kp := by omega
          as_aux_lemma =>
          rw [Nat.sub_self, Rp.peersO] at he
          simp only [Prod.mk.injEq] at he
          obtain ⟨rfl, rfl⟩ := he
          rw [List.append_nil] at hps
          subst hps
          clear hlt HP HN
          go_wp2_with fail
          go_meet
          exact ⟨pv, _, P, hM, hE, hPP, fun _ => rfl⟩
    · as_aux_lemma =>
      have e11 := E11.out
      rw [if_neg h7] at e11
      simp only [Prod.mk.injEq] at e11
      obtain ⟨rfl, rfl⟩ := e11
      have h7' : ¬ (kp : Int) ≤ 7 := by omega
      have h0k : (0 : Int) < (kp : Int) := by omega
      clear h7 HP HN
      go_wp2_with fail
      go_loopw [12] (fun i wr => i = .int .u64 0 ∧ wr = W10) (fun i _ => 0)
      case atStart => exact ⟨rfl, rfl⟩
      case round =>
        obtain ⟨rfl, rfl⟩ := hrel
        go_wp2_with fail
        go_meet
        exact ⟨.slice none 0 0, [], P10, hM, hE, PP.nil _ _, fun _ => rfl⟩
  case rest =>
  clear P10 hM hE
  obtain ⟨pv, ps', P30, hM, hE, hPP, hps⟩ := hcut
  obtain ⟨po, pc, rfl⟩ := hPP.form
  have c := rnum_ps N _ b _ _ q0 w wc P30 hBw hl e12
  go_wp2_with fail
  refine c.mono ?_
  rintro r W11 ⟨rfl, P11, hk⟩
  clear c P30
  replace hM := hM.kt (hk 62 (by decide))
  replace hE := hE.kt (hk 79 (by decide)) (hk 5 (by decide))
  replace hPP := hPP.kt (hk 30 (by decide))
  clear hk
  have ff := hM.froz 11
  have dd : W11.cell? ⟨N + 2, 11, none⟩ = some (.int .u64 0) := hM.at 11 _ rfl
  replace hE := hE.kt (KT.setM hM (by decide) 11 (Ytlcnjinabfbglaa.u64 q0)) (KT.setM hM (by decide) 11 (Ytlcnjinabfbglaa.u64 q0))
  replace hPP := hPP.kt (KT.setM hM (by decide) 11 (Ytlcnjinabfbglaa.u64 q0))
  have P' := P11.setM (i := 11) hM (Ytlcnjinabfbglaa.u64 q0)
  replace hM : Mr (W11.setCell ⟨N + 2, 11, none⟩ (Ytlcnjinabfbglaa.u64 q0)) (N + 2) #[.int .i64 0, Ytlcnjinabfbglaa.u64 k1, Ytlcnjinabfbglaa.u64 k2, Ytlcnjinabfbglaa.u64 k3, .bool false, .bool false, Ytlcnjinabfbglaa.u64 k5, Ytlcnjinabfbglaa.u64 k6, Ytlcnjinabfbglaa.u64 k7, .slice eo xs.length ec, .slice po ps'.length pc, Ytlcnjinabfbglaa.u64 q0, .int .u64 0, .slice none 0 0] := hM.set 11 (Ytlcnjinabfbglaa.u64 q0)
  clear P11
  have c := rnum_ps N _ b _ _ q1 w (W11.setCell ⟨N + 2, 11, none⟩ (Ytlcnjinabfbglaa.u64 q0)) P' hBw hl e13
  go_wp2_with fail
  refine c.mono ?_
  rintro r W12 ⟨rfl, P12, hk⟩
  clear c P' ff dd
  replace hM := hM.kt (hk 62 (by decide))
  replace hE := hE.kt (hk 79 (by decide)) (hk 5 (by decide))
  replace hPP := hPP.kt (hk 30 (by decide))
  clear hk
  have ff := hM.froz 12
  have dd : W12.cell? ⟨N + 2, 12, none⟩ = some (.int .u64 0) := hM.at 12 _ rfl
  replace hE := hE.kt (KT.setM hM (by decide) 12 (Ytlcnjinabfbglaa.u64 q1)) (KT.setM hM (by decide) 12 (Ytlcnjinabfbglaa.u64 q1))
  replace hPP := hPP.kt (KT.setM hM (by decide) 12 (Ytlcnjinabfbglaa.u64 q1))
  have P' := P12.setM (i := 12) hM (Ytlcnjinabfbglaa.u64 q1)
  replace hM : Mr (W12.setCell ⟨N + 2, 12, none⟩ (Ytlcnjinabfbglaa.u64 q1)) (N + 2) #[.int .i64 0, Ytlcnjinabfbglaa.u64 k1, Ytlcnjinabfbglaa.u64 k2, Ytlcnjinabfbglaa.u64 k3, .bool false, .bool false, Ytlcnjinabfbglaa.u64 k5, Ytlcnjinabfbglaa.u64 k6, Ytlcnjinabfbglaa.u64 k7, .slice eo xs.length ec, .slice po ps'.length pc, Ytlcnjinabfbglaa.u64 q0, Ytlcnjinabfbglaa.u64 q1, .slice none 0 0] := hM.set 12 (Ytlcnjinabfbglaa.u64 q1)
  clear P12
  have c := rnum_ps N _ b _ _ q2 w (W12.setCell ⟨N + 2, 12, none⟩ (Ytlcnjinabfbglaa.u64 q1)) P' hBw hl e14
  go_wp2_with fail
  refine c.mono ?_
  rintro r W13 ⟨rfl, P13, hk⟩
  clear c P' ff dd
  replace hM := hM.kt (hk 62 (by decide))
  replace hE := hE.kt (hk 79 (by decide)) (hk 5 (by decide))
  replace hPP := hPP.kt (hk 30 (by decide))
  clear hk
  have HE := Lib.hid (And.intro hE (And.intro hPP hes))
  have HPS := Lib.hid hps
  clear hE hPP hes hps e0 e1 e2 e3 e4 e5 e6 e7 e8 e10 e12 e13 e14 E9 E11 HN
  have hres := P13.res
  cases s15 with
  | none => as_aux_lemma =>
    have hR := HP.out
    simp only at hR
    subst hR
    have c1 : W13.cell? ⟨N + 1, 1, none⟩ = some (.int .i64 (-1)) := P13.tk.c1
    clear HP HG HE hM H15 HPS
    go_upto_region 28 with fail
    go_wp2_with (refine wpList_storeM rfl _ _ rfl hres rfl rfl (by simp [Value.oneCell']) ?_; intro X2 mm hkt hbl)
    obtain ⟨m0, m1, m2, m3, m4, m5, m6, m7, m8, m9, m10, m11, m12, m13⟩ := cells14 mm
    exact bodyPost_ret (v := .tuple #[noMsg, .int .i64 4]) (by simp [results, Try.results43, go_sem, m0, m1, m2, m3, m4, m5, m6, m7, m8, m9, m10, m11, m12, m13]) rfl ⟨P13.bel.trans hbl, rfl⟩
  | some j =>
    have hj := P13.tk.le j rfl
    have c1 : W13.cell? ⟨N + 1, 1, none⟩ = some (.int .i64 (j : Int)) := P13.tk.c1
    have h0j : ¬ (j : Int) < 0 := by omega
    obtain rfl := HPS.out (fun h => by have := H15.out h; cases this)
    clear HPS H15
    by_cases hk5 : k0 ≤ 5
    · have hk5' : ¬ (5 : Int) < (k0 : Int) := by omega
      by_cases hf3 : k4 ≤ 3
      · have hf3' : ¬ (3 : Int) < (k4 : Int) := by omega
        have hw0 : IntKind.i64.wrap (k0 : Int) = (k0 : Int) := IntWalk.i64_in _ (by omega)
        obtain ⟨hE, hPP, hes⟩ := HE.out
        clear HE hres
        have ff := hM.froz 0
        have dd : W13.cell? ⟨N + 2, 0, none⟩ = some (.int .i64 0) := hM.at 0 _ rfl
        replace hE := hE.kt (KT.setM hM (by decide) 0 (.int .i64 (k0 : Int))) (KT.setM hM (by decide) 0 (.int .i64 (k0 : Int)))
        replace hPP := hPP.kt (KT.setM hM (by decide) 0 (.int .i64 (k0 : Int)))
        have P40 := P13.setM (i := 0) hM (.int .i64 (k0 : Int))
        replace hM : Mr (W13.setCell ⟨N + 2, 0, none⟩ (.int .i64 (k0 : Int))) (N + 2) #[.int .i64 (k0 : Int), Ytlcnjinabfbglaa.u64 k1, Ytlcnjinabfbglaa.u64 k2, Ytlcnjinabfbglaa.u64 k3, .bool false, .bool false, Ytlcnjinabfbglaa.u64 k5, Ytlcnjinabfbglaa.u64 k6, Ytlcnjinabfbglaa.u64 k7, .slice eo xs.length ec, .slice po ps'.length pc, Ytlcnjinabfbglaa.u64 q0, Ytlcnjinabfbglaa.u64 q1, .slice none 0 0] := hM.set 0 (.int .i64 (k0 : Int))
        clear P13
        go_upto_region 30 with fail
        generalize (W13.setCell ⟨N + 2, 0, none⟩ (.int .i64 (k0 : Int))) = W40 at *
        clear ff dd c1
        go_cut [] (fun wx => RS N w (.slice ao b.length cap) b (some j) wx ∧ Mr wx (N + 2) #[.int .i64 (k0 : Int), Ytlcnjinabfbglaa.u64 k1, Ytlcnjinabfbglaa.u64 k2, Ytlcnjinabfbglaa.u64 k3, .bool (decide (k4 % 2 = 1)), .bool false, Ytlcnjinabfbglaa.u64 k5, Ytlcnjinabfbglaa.u64 k6, Ytlcnjinabfbglaa.u64 k7, .slice eo xs.length ec, .slice po ps'.length pc, Ytlcnjinabfbglaa.u64 q0, Ytlcnjinabfbglaa.u64 q1, .slice none 0 0] ∧ EE (N + 3) wx (.slice eo xs.length ec) xs ∧ PP (N + 3) wx (.slice po ps'.length pc) ps')
        case first => as_aux_lemma =>
          have f4 := hM.froz 4
          have d4 : W40.cell? ⟨N + 2, 4, none⟩ = some (.bool false) := hM.at 4 _ rfl
          have hcase : k4 = 0 ∨ k4 = 1 ∨ k4 = 2 ∨ k4 = 3 := by omega
          clear HP g4
          rcases hcase with rfl | rfl | rfl | rfl
          all_goals
            go_wp2_with fail
            go_meet
            exact ⟨P40.setM hM _, hM.set 4 _, hE.kt (KT.setM hM (by decide) 4 _) (KT.setM hM (by decide) 4 _), hPP.kt (KT.setM hM (by decide) 4 _)⟩
        case rest =>
        clear P40 hM hE hPP
        obtain ⟨P41, hM, hE, hPP⟩ := hcut
        generalize wc = W41 at *
        go_upto_region 31 with fail
        go_cut [] (fun wx => RS N w (.slice ao b.length cap) b (some j) wx ∧ Mr wx (N + 2) #[.int .i64 (k0 : Int), Ytlcnjinabfbglaa.u64 k1, Ytlcnjinabfbglaa.u64 k2, Ytlcnjinabfbglaa.u64 k3, .bool (decide (k4 % 2 = 1)), .bool (decide (k4 / 2 = 1)), Ytlcnjinabfbglaa.u64 k5, Ytlcnjinabfbglaa.u64 k6, Ytlcnjinabfbglaa.u64 k7, .slice eo xs.length ec, .slice po ps'.length pc, Ytlcnjinabfbglaa.u64 q0, Ytlcnjinabfbglaa.u64 q1, .slice none 0 0] ∧ EE (N + 3) wx (.slice eo xs.length ec) xs ∧ PP (N + 3) wx (.slice po ps'.length pc) ps')
        case first => as_aux_lemma =>
          have f4 := hM.froz 5
          have d4 : W41.cell? ⟨N + 2, 5, none⟩ = some (.bool false) := hM.at 5 _ rfl
          have hcase : k4 = 0 ∨ k4 = 1 ∨ k4 = 2 ∨ k4 = 3 := by omega
          clear HP g4
          rcases hcase with rfl | rfl | rfl | rfl
          all_goals
            go_wp2_with fail
            go_meet
            exact ⟨P41.setM hM _, hM.set 5 _, hE.kt (KT.setM hM (by decide) 5 _) (KT.setM hM (by decide) 5 _), hPP.kt (KT.setM hM (by decide) 5 _)⟩
        case rest =>
        clear P41 hM hE hPP
        obtain ⟨P42, hM, hE, hPP⟩ := hcut
        generalize wc = W42 at *
        obtain ⟨fp, hfp⟩ : ∃ fp, decide (k4 % 2 = 1) = fp := ⟨_, rfl⟩
        obtain ⟨fo, hfo⟩ : ∃ fo, decide (k4 / 2 = 1) = fo := ⟨_, rfl⟩
        rw [hfp, hfo] at hM HP
        clear hfp hfo
        have hal := Below.al (Below.refl W42.heap.size W42) (.cells #[] 5)
        have Pa := P42.keep hal
        have c1 : (W42.alloc (.cells #[] 5)).cell? ⟨N + 1, 1, none⟩ = some (.int .i64 (j : Int)) := Pa.tk.c1
        obtain ⟨V, hV, hBV⟩ := cut_l (P := Try.prog) Try.underlying22 Try.size5 ao b.length cap j hj
        have hD : Bts (W42.alloc (.cells #[] 5)) V (b.drop j) := Bts.drop (hBV _ _ (hBw _ Pa.bel) (by simp))
        obtain ⟨ao2, cap2, rfl, -, -, -⟩ := hD.form
        have hdle : (b.drop j).length ≤ 1000000 := by rw [List.length_drop]; omega
        obtain ⟨dl, hdl⟩ : ∃ dl, ([] : List UInt8).length + (b.drop j).length = dl := ⟨_, rfl⟩
        have HD := Lib.hid hdl
        simp only [List.length_drop] at hV hD
        clear hBV hdl Pa
        go_upto_region 33 with (at_builtin; refine wpList_appB (W42.alloc (.cells #[] 5)) rfl _ _ rfl W42.heap.size (own_lit0 W42) hD rfl rfl (by simp only [List.length_nil]; omega) (by simp) ?_; intro ao3 ac3 Wa hO hg3 hb3; rw [HD.out] at hO ⊢; rw [List.nil_append] at hO; have hba := ((Below.refl W42.heap.size W42).alloc (Nat.le_refl _) (.cells #[] 5)).trans hb3; have hMa := hM.kt (KT.below hba _); have f13 := hMa.froz 13; have d13 : Wa.cell? ⟨N + 2, 13, none⟩ = some (.slice none 0 0) := hMa.at 13 _ rfl)
        have P50 := (P42.keep hba).setM (i := 13) hMa (.slice ao3 dl ac3)
        have hE50 := (hE.kt (KT.below hba _) (KT.below hba _)).kt (KT.setM hMa (by decide) 13 (.slice ao3 dl ac3)) (KT.setM hMa (by decide) 13 (.slice ao3 dl ac3))
        have hPP50 := (hPP.kt (KT.below hba _)).kt (KT.setM hMa (by decide) 13 (.slice ao3 dl ac3))
        have hO50 := KT.own hO (KT.setM hMa (T := 5) (by decide) 13 (.slice ao3 dl ac3))
        have hM50 : Mr (Wa.setCell ⟨N + 2, 13, none⟩ (.slice ao3 dl ac3)) (N + 2) #[.int .i64 (k0 : Int), Ytlcnjinabfbglaa.u64 k1, Ytlcnjinabfbglaa.u64 k2, Ytlcnjinabfbglaa.u64 k3, .bool fp, .bool fo, Ytlcnjinabfbglaa.u64 k5, Ytlcnjinabfbglaa.u64 k6, Ytlcnjinabfbglaa.u64 k7, .slice eo xs.length ec, .slice po ps'.length pc, Ytlcnjinabfbglaa.u64 q0, Ytlcnjinabfbglaa.u64 q1, .slice ao3 dl ac3] := hMa.set 13 _
        generalize Wa.setCell ⟨N + 2, 13, none⟩ (.slice ao3 dl ac3) = W50 at *
        clear f13 d13 hMa hM hE hPP hO hba hb3 hg3 P42 hal c1 hV hD
        have hN2 : Rp.Msg.N ⟨(k0 : Int), k1, k2, k3, fp, fo, k5, k6, k7, es, ps', q0, q1, b.drop j⟩ := by
          obtain ⟨g1, g2, g3, g5, g6, g7, gq0, gq1⟩ := HG.out
          refine ⟨Nat.lt_of_le_of_lt g1 (by decide), Nat.lt_of_le_of_lt g2 (by decide), Nat.lt_of_le_of_lt g3 (by decide), Nat.lt_of_le_of_lt g5 (by decide), Nat.lt_of_le_of_lt g6 (by decide), Nat.lt_of_le_of_lt g7 (by decide), Nat.lt_of_le_of_lt gq0 (by decide), Nat.lt_of_le_of_lt gq1 (by decide), ?_, hPP50.n64⟩
          intro e he
          rw [← hes] at he
          obtain ⟨x, hx, rfl⟩ := List.mem_map.1 he
          exact (hE50.bts x hx).2
        have hOk : MvOk W50 ⟨⟨(k0 : Int), k1, k2, k3, fp, fo, k5, k6, k7, es, ps', q0, q1, b.drop j⟩, .slice eo xs.length ec, .slice po ps'.length pc, .slice ao3 dl ac3, xs⟩ := ⟨hE50.ents, hPP50.nums, OwnB.bts hO50, hes, hN2, by simp only; omega, by simp only; omega⟩
        cases hmay : Rp.may ⟨(k0 : Int), k1, k2, k3, fp, fo, k5, k6, k7, es, ps', q0, q1, b.drop j⟩ with
        | false => as_aux_lemma =>
          have hR := HP.out
          try simp only at hR
          rw [if_neg (fun h => by have := h.2.2.1; rw [hmay] at this; exact absurd this (by decide))] at hR
          subst hR
          have hY := refMsgPut_bad ⟨⟨(k0 : Int), k1, k2, k3, fp, fo, k5, k6, k7, es, ps', q0, q1, b.drop j⟩, .slice eo xs.length ec, .slice po ps'.length pc, .slice ao3 dl ac3, xs⟩ W50 hOk hmay
          unfold msgV at hY
          simp only at hY
          clear HP HG hOk hN2 hmay
          go_upto_region 35 with (first | (refine wpList_loadM rfl _ rfl hM50 rfl rfl ?_) | (go_at_call 41; refine hY.mono ?_; rintro r W51 ⟨rfl, hb51⟩; have P51 := P50.keep hb51; have hres := P51.res))
          go_wp2_with (refine wpList_storeM rfl _ _ rfl hres rfl rfl (by simp [Value.oneCell']) ?_; intro X2 mm hkt hbl)
          obtain ⟨m0, m1, m2, m3, m4, m5, m6, m7, m8, m9, m10, m11, m12, m13⟩ := cells14 mm
          exact bodyPost_ret (v := .tuple #[noMsg, .int .i64 4]) (by simp [results, Try.results43, go_sem, m0, m1, m2, m3, m4, m5, m6, m7, m8, m9, m10, m11, m12, m13]) rfl ⟨P51.bel.trans hbl, rfl⟩
        | true =>
          have hY := refMsgPut_ok ⟨⟨(k0 : Int), k1, k2, k3, fp, fo, k5, k6, k7, es, ps', q0, q1, b.drop j⟩, .slice eo xs.length ec, .slice po ps'.length pc, .slice ao3 dl ac3, xs⟩ W50 hOk hmay
          unfold msgV at hY
          simp only at hY
          have hR := HP.out
          try simp only at hR
          obtain ⟨bb, hbb⟩ : ∃ bb, Rp.bytes ⟨(k0 : Int), k1, k2, k3, fp, fo, k5, k6, k7, es, ps', q0, q1, b.drop j⟩ = bb := ⟨_, rfl⟩
          rw [hbb] at hY hR
          by_cases hbe : bb = b
          · as_aux_lemma =>
            rw [if_pos ⟨hk5, hf3, hmay, hbe⟩] at hR
            subst hR
            rw [hbe] at hY
            clear HP HG hOk hmay hbb hbe
            go_upto_region 36 with (first | (refine wpList_loadM rfl _ rfl hM50 rfl rfl ?_) | (go_at_call 41; refine hY.mono ?_; rintro r W51 ⟨v2, rfl, hO2, hb51⟩; obtain ⟨vo2, vc2, rfl, -, -⟩ := own_form hO2; have k2 := conv_str hO2.bts; have P51 := P50.keep hb51; have k3 := conv_str (hBw W51 P51.bel); have hM51 := hM50.kt (KT.below hb51 _); have hE51 := hE50.kt (KT.below hb51 _) (KT.below hb51 _); have hPP51 := hPP50.kt (KT.below hb51 _); have hO51 := KT.own hO50 (KT.below hb51 _); have hres := P51.res))
            clear k2 k3
            go_wp2_with (first | (refine wpList_loadM rfl _ rfl hM51 rfl rfl ?_) | (refine wpList_storeM rfl _ _ rfl hres rfl rfl (by simp [Value.oneCell']) ?_; intro X2 mm hkt hbl))
            obtain ⟨m0, m1, m2, m3, m4, m5, m6, m7, m8, m9, m10, m11, m12, m13⟩ := cells14 mm
            exact bodyPost_ret (v := .tuple #[.agg #[.int .i64 (k0 : Int), Ytlcnjinabfbglaa.u64 k1, Ytlcnjinabfbglaa.u64 k2, Ytlcnjinabfbglaa.u64 k3, .bool fp, .bool fo, Ytlcnjinabfbglaa.u64 k5, Ytlcnjinabfbglaa.u64 k6, Ytlcnjinabfbglaa.u64 k7, .slice eo xs.length ec, .slice po ps'.length pc, Ytlcnjinabfbglaa.u64 q0, Ytlcnjinabfbglaa.u64 q1, .slice ao3 dl ac3], .int .i64 0]) (by simp [results, Try.results43, go_sem, m0, m1, m2, m3, m4, m5, m6, m7, m8, m9, m10, m11, m12, m13]) rfl ⟨P51.bel.trans hbl, ⟨⟨(k0 : Int), k1, k2, k3, fp, fo, k5, k6, k7, es, ps', q0, q1, b.drop j⟩, .slice eo xs.length ec, .slice po ps'.length pc, .slice ao3 dl ac3, xs⟩, rfl, ⟨(hE51.kt (hkt 79 (by decide)) (hkt 5 (by decide))).ents, (hPP51.kt (hkt 30 (by decide))).nums, OwnB.bts (KT.own hO51 (hkt 5 (by decide))), hes, hN2, by simp only; omega, by simp only; omega⟩, rfl⟩
          · as_aux_lemma =>
            rw [if_neg (fun h => hbe h.2.2.2)] at hR
            subst hR
            have hs1 : (bb == b) = false := by rw [beq_eq_false_iff_ne]; exact hbe
            have hs2 : (bb != b) = true := by rw [bne_iff_ne]; exact hbe
            clear HP HG hOk hN2 hmay hbb
            go_upto_region 35 with (first | (refine wpList_loadM rfl _ rfl hM50 rfl rfl ?_) | (go_at_call 41; refine hY.mono ?_; rintro r W51 ⟨v2, rfl, hO2, hb51⟩; obtain ⟨vo2, vc2, rfl, -, -⟩ := own_form hO2; have k2 := conv_str hO2.bts; have P51 := P50.keep hb51; have k3 := conv_str (hBw W51 P51.bel); have hres := P51.res))
            clear k2 k3
            go_wp2_with (refine wpList_storeM rfl _ _ rfl hres rfl rfl (by simp [Value.oneCell']) ?_; intro X2 mm hkt hbl)
            obtain ⟨m0, m1, m2, m3, m4, m5, m6, m7, m8, m9, m10, m11, m12, m13⟩ := cells14 mm
            exact bodyPost_ret (v := .tuple #[noMsg, .int .i64 4]) (by simp [results, Try.results43, go_sem, m0, m1, m2, m3, m4, m5, m6, m7, m8, m9, m10, m11, m12, m13]) rfl ⟨P51.bel.trans hbl, rfl⟩
      · as_aux_lemma =>
        have hR := HP.out
        simp only at hR
        rw [if_neg (fun h => hf3 h.2.1)] at hR
        subst hR
        have hf3' : (3 : Int) < (k4 : Int) := by omega
        clear hf3
        clear HP HG HE hM
        go_upto_region 28 with fail
        go_wp2_with (refine wpList_storeM rfl _ _ rfl hres rfl rfl (by simp [Value.oneCell']) ?_; intro X2 mm hkt hbl)
        obtain ⟨m0, m1, m2, m3, m4, m5, m6, m7, m8, m9, m10, m11, m12, m13⟩ := cells14 mm
        exact bodyPost_ret (v := .tuple #[noMsg, .int .i64 4]) (by simp [results, Try.results43, go_sem, m0, m1, m2, m3, m4, m5, m6, m7, m8, m9, m10, m11, m12, m13]) rfl ⟨P13.bel.trans hbl, rfl⟩
    · as_aux_lemma =>
      have hR := HP.out
      simp only at hR
      rw [if_neg (fun h => hk5 h.1)] at hR
      subst hR
      have hk5' : (5 : Int) < (k0 : Int) := by omega
      clear hk5
      clear HP HG HE hM
      go_upto_region 28 with fail
      go_wp2_with (refine wpList_storeM rfl _ _ rfl hres rfl rfl (by simp [Value.oneCell']) ?_; intro X2 mm hkt hbl)
      obtain ⟨m0, m1, m2, m3, m4, m5, m6, m7, m8, m9, m10, m11, m12, m13⟩ := cells14 mm
      exact bodyPost_ret (v := .tuple #[noMsg, .int .i64 4]) (by simp [results, Try.results43, go_sem, m0, m1, m2, m3, m4, m5, m6, m7, m8, m9, m10, m11, m12, m13]) rfl ⟨P13.bel.trans hbl, rfl⟩
end Go.Proofs.Ytlcnjinabfbglaa
