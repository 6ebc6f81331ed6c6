import Derived.Test.YtaepkmjlkenenaaL5
namespace Go.Proofs.Ytaepkmjlkenenaa
open Go.RowKit

/-- a literal's row -/
theorem lit_ints (w : World) (l : List Int) (n : Nat) (hn : n = w.heap.size) (hl : l.length ≤ 1000000) : Ints (w.alloc (.cells (l.map i64v).toArray 2)) (.slice (some ⟨n, 0, none⟩) l.length l.length) l := by
  subst hn
  have := Sli.lit w (l.map i64v) 2 (0, 0) (by rw [List.length_map]; unfold maxLen; omega)
  rw [List.length_map] at this
  exact this
/-- a lot in memory -/
def LotAt (w : World) (b : Nat) (p g n : Int) (vd vc : Value) (r : Int) : Prop := w.heap[b]? = some (.cells #[.int .i64 p, .int .i64 g, .int .i64 n, vd, vc, .int .i64 r] 24 (0, 0))
theorem LotAt.facts {w : World} {b : Nat} {p g n r : Int} {vd vc : Value} (h : LotAt w b p g n vd vc r) :
    w.cell? ⟨b, 0, none⟩ = some (.int .i64 p) ∧ w.cell? ⟨b, 1, none⟩ = some (.int .i64 g) ∧ w.cell? ⟨b, 2, none⟩ = some (.int .i64 n) ∧ w.cell? ⟨b, 3, none⟩ = some vd ∧ w.cell? ⟨b, 4, none⟩ = some vc ∧ w.cell? ⟨b, 5, none⟩ = some (.int .i64 r) := by
  refine ⟨?_, ?_, ?_, ?_, ?_, ?_⟩ <;> (rw [cell_of_row w b _ _ 24 (0, 0) h]; rfl)
theorem LotAt.froz {w : World} {b : Nat} {p g n r : Int} {vd vc : Value} (h : LotAt w b p g n vd vc r) (i : Nat) : w.frozen? ⟨b, i, none⟩ = false := frozen_of_row w b i _ 24 h
theorem LotAt.keep {w w' : World} {b : Nat} {p g n r : Int} {vd vc : Value} (h : LotAt w b p g n vd vc r) (hb : Below w.heap.size w w') (hl : b < w.heap.size) : LotAt w' b p g n vd vc r := by
  unfold LotAt; rw [hb.block _ hl]; exact h
theorem LotAt.new (w : World) (p g n r : Int) (vd vc : Value) : LotAt (w.alloc (.cells #[.int .i64 p, .int .i64 g, .int .i64 n, vd, vc, .int .i64 r] 24)) w.heap.size p g n vd vc r := by
  unfold LotAt World.alloc; simp
theorem LotAt.lt {w : World} {b : Nat} {p g n r : Int} {vd vc : Value} (h : LotAt w b p g n vd vc r) : b < w.heap.size := by
  unfold LotAt at h
  have := (Array.getElem?_eq_some_iff.1 h).1
  exact this
theorem LotAt.set0 {w : World} {b : Nat} {p g n r : Int} {vd vc : Value} (h : LotAt w b p g n vd vc r) (q : Int) : LotAt (w.setCell ⟨b, 0, none⟩ (.int .i64 q)) b q g n vd vc r := heap_setCell_same w b 0 _ 24 (.int .i64 q) h
theorem LotAt.set1 {w : World} {b : Nat} {p g n r : Int} {vd vc : Value} (h : LotAt w b p g n vd vc r) (q : Int) : LotAt (w.setCell ⟨b, 1, none⟩ (.int .i64 q)) b p q n vd vc r := heap_setCell_same w b 1 _ 24 (.int .i64 q) h
theorem LotAt.set2 {w : World} {b : Nat} {p g n r : Int} {vd vc : Value} (h : LotAt w b p g n vd vc r) (q : Int) : LotAt (w.setCell ⟨b, 2, none⟩ (.int .i64 q)) b p g q vd vc r := heap_setCell_same w b 2 _ 24 (.int .i64 q) h
theorem LotAt.set3 {w : World} {b : Nat} {p g n r : Int} {vd vc : Value} (h : LotAt w b p g n vd vc r) (q : Value) : LotAt (w.setCell ⟨b, 3, none⟩ q) b p g n q vc r := heap_setCell_same w b 3 _ 24 q h
theorem LotAt.set4 {w : World} {b : Nat} {p g n r : Int} {vd vc : Value} (h : LotAt w b p g n vd vc r) (q : Value) : LotAt (w.setCell ⟨b, 4, none⟩ q) b p g n vd q r := heap_setCell_same w b 4 _ 24 q h
theorem LotAt.set5 {w : World} {b : Nat} {p g n r : Int} {vd vc : Value} (h : LotAt w b p g n vd vc r) (q : Int) : LotAt (w.setCell ⟨b, 5, none⟩ (.int .i64 q)) b p g n vd vc q := heap_setCell_same w b 5 _ 24 (.int .i64 q) h
/-- a moment that is no such number -/
theorem no_moment {l : List Int} {x : Int} (h : x ∉ l) : ∀ u ∈ l.map i64v, u ≠ i64v x := by
  intro u hu he
  obtain ⟨y, hy, rfl⟩ := List.mem_map.1 hu
  simp at he
  subst he
  exact h hy
/-- the chapter's rows -/
theorem row1 : Lt.dueOf ⟨1, 100, 1000, [500], [800, 950], 9⟩ = [500, 950] ∧ Lt.skipOf ⟨1, 100, 1000, [500], [800, 950], 9⟩ = [800] := by decide +kernel
theorem row2 : Lt.dueOf ⟨2, 100, 1000, [500], [800, 950], 9⟩ = [500, 800, 950] ∧ Lt.skipOf ⟨2, 100, 1000, [500], [800, 950], 9⟩ = [] := by decide +kernel
theorem row3 : Lt.dueOf ⟨3, 100, 1000, [500], [800, 950], 9⟩ = [950] ∧ Lt.skipOf ⟨3, 100, 1000, [500], [800, 950], 9⟩ = [500, 800] := by decide +kernel
theorem row4 : Lt.dueOf ⟨2, 100, 1000, [500], [800, 950], 2⟩ = [500, 950] ∧ Lt.skipOf ⟨2, 100, 1000, [500], [800, 950], 2⟩ = [800] := by decide +kernel

theorem same_eq (va vb : Value) (l : List Int) (w : World) (hA : Ints w va l) (hB : Ints w vb l) (hl : l.length ≤ 1000000) :
    Calls Try.prog 12 #[va, vb] w fun e w' => e = .returned (.bool true) ∧ Below w.heap.size w w' := by
  have := same_any va vb l l w hA hB hl
  rw [decide_eq_true rfl] at this
  exact this
set_option maxRecDepth 100000 in
theorem known16_any (w : World) : Calls Try.prog 9 #[] w fun e w' => e = .returned (.bool true) ∧ Below w.heap.size w w' := by
  go_enter Try.func9, Try.ntmps9
  go_wp2_with fail
  have hl1 : Ints _ _ _ := lit_ints w [500] _ rfl (by decide)
  have hl2 : Ints _ _ _ := lit_ints (w.alloc (.cells #[.int .i64 500] 2)) [800, 950] (w.heap.size + 1) (by simp) (by decide)
  have hB : Below w.heap.size w (w.alloc (.cells #[.int .i64 500] 2)) := Below.al (Below.refl _ _) _
  obtain ⟨W, hW⟩ : ∃ W, W = (w.alloc (.cells #[.int .i64 500] 2)).alloc (.cells #[.int .i64 800, .int .i64 950] 2) := ⟨_, rfl⟩
  have hs : W.heap.size = w.heap.size + 1 + 1 := by rw [hW]; simp
  have h1 : Ints W (.slice (some ⟨w.heap.size, 0, none⟩) 1 1) [500] := by rw [hW]; exact hl1.keep (Below.al (Below.refl _ _) _)
  have h2 : Ints W (.slice (some ⟨w.heap.size + 1, 0, none⟩) 2 2) [800, 950] := by rw [hW]; exact hl2
  have hb : Below w.heap.size w W := by rw [hW]; exact Below.al hB _
  rw [← hW]
  clear hW hl1 hl2 hB
  obtain ⟨v1, hv1⟩ : ∃ v1 : Value, v1 = .slice (some ⟨w.heap.size, 0, none⟩) 1 1 := ⟨_, rfl⟩
  obtain ⟨v2, hv2⟩ : ∃ v2 : Value, v2 = .slice (some ⟨w.heap.size + 1, 0, none⟩) 2 2 := ⟨_, rfl⟩
  rw [← hv1] at h1 ⊢
  rw [← hv2] at h2 ⊢
  have hb0 := Below.al hb (.cells #[.int .i64 1, .int .i64 100, .int .i64 1000, v1, v2, .int .i64 9] 24)
  have hb00 := Below.al (Below.refl _ W) (.cells #[.int .i64 1, .int .i64 100, .int .i64 1000, v1, v2, .int .i64 9] 24)
  have L := LotAt.new W 1 100 1000 9 v1 v2
  have k1 := h1.keep hb00
  have k2 := h2.keep hb00
  rw [hs] at L
  generalize hWW : W.alloc (.cells #[.int .i64 1, .int .i64 100, .int .i64 1000, v1, v2, .int .i64 9] 24) = W0 at *
  have hbb : w.heap.size ≤ w.heap.size + 1 + 1 := by omega
  generalize w.heap.size + 1 + 1 = B at *
  clear hb hs hv1 hv2 h1 h2 hb00 hWW
  refine (judge_yes ⟨1, 100, 1000, [500], [800, 950], 9⟩ v1 v2 _ k1 k2 (by decide +kernel)).mono ?_
  rw [row1.1, row1.2]
  rintro e w1 ⟨a1, a2, rfl, i1, i2, hc1⟩
  have L := L.keep hc1 L.lt
  have k1 := k1.keep hc1
  have k2 := k2.keep hc1
  have hb0 := Below.call hb0 hc1
  have x0 := L.facts.1
  have M := L.set0 2
  have z0 := L.froz 0
  have k1 := Sli.set k1 x0 (no_moment (by decide)) (.int .i64 2)
  have k2 := Sli.set k2 x0 (no_moment (by decide)) (.int .i64 2)
  have i1 := Sli.set i1 x0 (no_moment (by decide)) (.int .i64 2)
  have i2 := Sli.set i2 x0 (no_moment (by decide)) (.int .i64 2)
  have hb0 := Below.setCell hb0 (p := ⟨B, 0, none⟩) hbb (.int .i64 2)
  obtain ⟨y0, y1, y2, y3, y4, y5⟩ := M.facts
  clear L hc1
  go_wp2_with fail
  clear x0 z0 y0 y1 y2 y3 y4 y5
  refine (judge_yes ⟨2, 100, 1000, [500], [800, 950], 9⟩ v1 v2 _ k1 k2 (by decide +kernel)).mono ?_
  rw [row2.1, row2.2]
  rintro e w2 ⟨a3, a4, rfl, i3, i4, hc2⟩
  have L := M.keep hc2 M.lt
  have hb0 := Below.call hb0 hc2
  have k1 := Sli.keep k1 hc2
  have k2 := Sli.keep k2 hc2
  have i1 := Sli.keep i1 hc2
  have i2 := Sli.keep i2 hc2
  have x0 := L.facts.1
  have M := L.set0 3
  have z0 := L.froz 0
  have k1 := Sli.set k1 x0 (no_moment (by decide)) (.int .i64 3)
  have k2 := Sli.set k2 x0 (no_moment (by decide)) (.int .i64 3)
  have i1 := Sli.set i1 x0 (no_moment (by decide)) (.int .i64 3)
  have i2 := Sli.set i2 x0 (no_moment (by decide)) (.int .i64 3)
  have i3 := Sli.set i3 x0 (no_moment (by decide)) (.int .i64 3)
  have i4 := Sli.set i4 x0 (no_moment (by decide)) (.int .i64 3)
  have hb0 := Below.setCell hb0 (p := ⟨B, 0, none⟩) hbb (.int .i64 3)
  obtain ⟨y0, y1, y2, y3, y4, y5⟩ := M.facts
  clear L hc2
  go_wp2_with fail
  clear x0 z0 y0 y1 y2 y3 y4 y5
  refine (judge_yes ⟨3, 100, 1000, [500], [800, 950], 9⟩ v1 v2 _ k1 k2 (by decide +kernel)).mono ?_
  rw [row3.1, row3.2]
  rintro e w3 ⟨a5, a6, rfl, i5, i6, hc3⟩
  have L := M.keep hc3 M.lt
  have hb0 := Below.call hb0 hc3
  have k1 := Sli.keep k1 hc3
  have k2 := Sli.keep k2 hc3
  have i1 := Sli.keep i1 hc3
  have i2 := Sli.keep i2 hc3
  have i3 := Sli.keep i3 hc3
  have i4 := Sli.keep i4 hc3
  have x0 := L.facts.1
  have M := L.set0 2
  have z0 := L.froz 0
  have k1 := Sli.set k1 x0 (no_moment (by decide)) (.int .i64 2)
  have k2 := Sli.set k2 x0 (no_moment (by decide)) (.int .i64 2)
  have i1 := Sli.set i1 x0 (no_moment (by decide)) (.int .i64 2)
  have i2 := Sli.set i2 x0 (no_moment (by decide)) (.int .i64 2)
  have i3 := Sli.set i3 x0 (no_moment (by decide)) (.int .i64 2)
  have i4 := Sli.set i4 x0 (no_moment (by decide)) (.int .i64 2)
  have i5 := Sli.set i5 x0 (no_moment (by decide)) (.int .i64 2)
  have i6 := Sli.set i6 x0 (no_moment (by decide)) (.int .i64 2)
  have hb0 := Below.setCell hb0 (p := ⟨B, 0, none⟩) hbb (.int .i64 2)
  have L2 := M
  have z5 := M.froz 5
  have zz0 := z0
  have xx0 := x0
  have x0 := L2.facts.2.2.2.2.2
  have M := L2.set5 2
  have z0 := L2.froz 5
  have k1 := Sli.set k1 x0 (no_moment (by decide)) (.int .i64 2)
  have k2 := Sli.set k2 x0 (no_moment (by decide)) (.int .i64 2)
  have i1 := Sli.set i1 x0 (no_moment (by decide)) (.int .i64 2)
  have i2 := Sli.set i2 x0 (no_moment (by decide)) (.int .i64 2)
  have i3 := Sli.set i3 x0 (no_moment (by decide)) (.int .i64 2)
  have i4 := Sli.set i4 x0 (no_moment (by decide)) (.int .i64 2)
  have i5 := Sli.set i5 x0 (no_moment (by decide)) (.int .i64 2)
  have i6 := Sli.set i6 x0 (no_moment (by decide)) (.int .i64 2)
  have hb0 := Below.setCell hb0 (p := ⟨B, 5, none⟩) hbb (.int .i64 2)
  obtain ⟨y0, y1, y2, y3, y4, y5⟩ := M.facts
  have x5 := x0
  clear L L2 hc3
  go_wp2_with fail
  clear x0 z0 y0 y1 y2 y3 y4 y5 xx0 zz0 x5 z5
  refine (judge_yes ⟨2, 100, 1000, [500], [800, 950], 2⟩ v1 v2 _ k1 k2 (by decide +kernel)).mono ?_
  rw [row4.1, row4.2]
  rintro e w4 ⟨a7, a8, rfl, i7, i8, hc4⟩
  have hb0 := Below.call hb0 hc4
  have i1 := Sli.keep i1 hc4
  have i2 := Sli.keep i2 hc4
  have i3 := Sli.keep i3 hc4
  have i4 := Sli.keep i4 hc4
  have i5 := Sli.keep i5 hc4
  have i6 := Sli.keep i6 hc4
  clear k1 k2 M hc4
  obtain ⟨p4, c4, rfl, -, -, -⟩ := Ints.form i4
  clear i4
  go_wp2_with fail
  refine (same_eq _ _ [500, 950] _ (Sli.keep i1 (Below.al (Below.refl _ _) _)) (lit_ints _ [500, 950] _ rfl (by decide)) (by decide)).mono ?_
  rintro e w5 ⟨rfl, hq⟩
  replace hq := Below.call (Below.al (Below.refl _ _) _) hq
  replace hb0 := Below.call hb0 hq
  replace i2 := Sli.keep i2 hq
  replace i3 := Sli.keep i3 hq
  replace i5 := Sli.keep i5 hq
  replace i6 := Sli.keep i6 hq
  replace i7 := Sli.keep i7 hq
  replace i8 := Sli.keep i8 hq
  clear hq i1
  go_wp2_with fail
  refine (same_eq _ _ [800] _ (Sli.keep i2 (Below.al (Below.refl _ _) _)) (lit_ints _ [800] _ rfl (by decide)) (by decide)).mono ?_
  rintro e w6 ⟨rfl, hq⟩
  replace hq := Below.call (Below.al (Below.refl _ _) _) hq
  replace hb0 := Below.call hb0 hq
  replace i3 := Sli.keep i3 hq
  replace i5 := Sli.keep i5 hq
  replace i6 := Sli.keep i6 hq
  replace i7 := Sli.keep i7 hq
  replace i8 := Sli.keep i8 hq
  clear hq i2
  go_wp2_with fail
  refine (same_eq _ _ [500, 800, 950] _ (Sli.keep i3 (Below.al (Below.refl _ _) _)) (lit_ints _ [500, 800, 950] _ rfl (by decide)) (by decide)).mono ?_
  rintro e w7 ⟨rfl, hq⟩
  replace hq := Below.call (Below.al (Below.refl _ _) _) hq
  replace hb0 := Below.call hb0 hq
  replace i5 := Sli.keep i5 hq
  replace i6 := Sli.keep i6 hq
  replace i7 := Sli.keep i7 hq
  replace i8 := Sli.keep i8 hq
  clear hq i3
  go_wp2_with fail
  refine (same_eq _ _ [950] _ (Sli.keep i5 (Below.al (Below.refl _ _) _)) (lit_ints _ [950] _ rfl (by decide)) (by decide)).mono ?_
  rintro e w8 ⟨rfl, hq⟩
  replace hq := Below.call (Below.al (Below.refl _ _) _) hq
  replace hb0 := Below.call hb0 hq
  replace i6 := Sli.keep i6 hq
  replace i7 := Sli.keep i7 hq
  replace i8 := Sli.keep i8 hq
  clear hq i5
  go_wp2_with fail
  refine (same_eq _ _ [500, 800] _ (Sli.keep i6 (Below.al (Below.refl _ _) _)) (lit_ints _ [500, 800] _ rfl (by decide)) (by decide)).mono ?_
  rintro e w9 ⟨rfl, hq⟩
  replace hq := Below.call (Below.al (Below.refl _ _) _) hq
  replace hb0 := Below.call hb0 hq
  replace i7 := Sli.keep i7 hq
  replace i8 := Sli.keep i8 hq
  clear hq i6
  go_wp2_with fail
  refine (same_eq _ _ [500, 950] _ (Sli.keep i7 (Below.al (Below.refl _ _) _)) (lit_ints _ [500, 950] _ rfl (by decide)) (by decide)).mono ?_
  rintro e w10 ⟨rfl, hq⟩
  replace hq := Below.call (Below.al (Below.refl _ _) _) hq
  replace hb0 := Below.call hb0 hq
  replace i8 := Sli.keep i8 hq
  clear hq i7
  go_wp2_with fail
  refine (same_eq _ _ [800] _ (Sli.keep i8 (Below.al (Below.refl _ _) _)) (lit_ints _ [800] _ rfl (by decide)) (by decide)).mono ?_
  rintro e w11 ⟨rfl, hq⟩
  replace hq := Below.call (Below.al (Below.refl _ _) _) hq
  replace hb0 := Below.call hb0 hq
  clear hq i8
  go_wp2_with fail
  go_ret
  exact ⟨rfl, hb0⟩
end Go.Proofs.Ytaepkmjlkenenaa
