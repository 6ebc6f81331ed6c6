import Derived.Test.YtaepkmjlkenenaaF16
namespace Go.Proofs.Ytaepkmjlkenenaa
open Go.ChangeShapes Go.WideShapes Go.RowKit
/-- a struct whose fields are one cell each: every field reads for itself -/
theorem open_agg {H : Type} {enc : TypeId × Value → H} {P : Program} {w : World} {base : Nat} {spare : Nat → Bool} {held : Bool} {r : Reach} {b0 : Nat} {t : TypeId} {fs : Array Field} {v : Value} {d : DataW H} {p : List MemPlace}
    (hs : P.underlying t = some (.struct fs)) (hone : Deep.oneCellFields P fs = true) (hC : P.cellsOf t = fs.size) (hv : Value.okWide P w r b0 t v) (h : DataW.Trod enc P w base spare held t v d p) :
    ∃ (cs : List Value) (n : Nat), v = .agg cs.toArray ∧ cs.length = fs.size ∧ ∀ (j : Nat) (f : Field) (u : Value), fs[j]? = some f → cs[j]? = some u → ∃ y, DataW.trod enc P w base spare held n f.type [u] = some y := by
  obtain ⟨⟨cs⟩, rfl, hsz⟩ := okWide_struct hs hv
  have hl : cs.length = fs.size := hsz.trans hC
  obtain ⟨fuel, hf⟩ := h
  obtain ⟨xs, n, -, -, -, hlen, hg⟩ := DataW.trod_struct hs hf
  refine ⟨cs, n, rfl, hl, fun j f u hj hu => ?_⟩
  obtain ⟨ho, hk⟩ := Deep.hone_of hone j f hj
  have hj2 : j < fs.size := (Array.getElem?_eq_some_iff.1 hj).1
  have h1 := hg j f hj
  have hx : xs[j]? = some (xs[j]'(by omega)) := List.getElem?_eq_getElem (by omega)
  obtain ⟨hj3, hu⟩ := List.getElem?_eq_some_iff.1 hu
  have h2 : ((Value.agg ⟨cs⟩).cells.toList.drop f.offset).take (P.cellsOf f.type) = [u] := by
    rw [ho, hk, ← hu]
    show (cs.drop j).take 1 = _
    rw [List.drop_eq_getElem_cons hj3]; rfl
  rw [hx, h2] at h1
  exact ⟨_, h1⟩
theorem Fi.i64_wf {n : Int} (h : (Lit.int .i64 n).wf = true) : Fi.I64 n := bounds_i64 h
theorem open_fires {H : Type} {enc : TypeId × Value → H} {w : World} {r : Reach} {b0 : Nat} {v : Value} {d : DataW H} {p : List MemPlace} (hv : Value.okWide Try.prog w r b0 35 v) (h : DataW.Trod enc Try.prog w 0 (fun _ => true) true 35 v d p) :
    ∃ l : List Fi.Fire, Fires w v l ∧ ∀ f ∈ l, Fi.I64 f.at' := by
  obtain ⟨a0, n0, c0, rfl⟩ := okWide_slice Try.underlying35 hv
  obtain ⟨n, hn⟩ := h
  rcases open_slots Try.underlying35 Try.underlying58 (by kernel_rfl) (by kernel_rfl) ⟨n, hn⟩ with h0 | ⟨a, len, cap, h0, hl, hm, hi⟩
  · obtain ⟨rfl, rfl, rfl⟩ : a0 = none ∧ n0 = 0 ∧ c0 = 0 := by simpa [Value.cells] using h0
    exact ⟨[], Row.nil _ _, by simp⟩
  · obtain ⟨rfl, rfl, rfl⟩ : a0 = some a ∧ n0 = len ∧ c0 = cap := by simpa [Value.cells] using h0
    have hx : ∀ i, i < n0 → ∃ x : Fi.Fire, Fi.I64 x.at' ∧ ∀ j u, (fireC x)[j]? = some u → w.cell? (a.add (i * 7 + j)) = some u := by
      intro i hil
      obtain ⟨u0, y0, m0, e0, t0⟩ := hi i hil 0 _ rfl
      obtain ⟨n0', q0, -, w0⟩ := DataW.trod_int Try.underlying32 t0
      simp at q0
      subst q0
      obtain ⟨u1, y1, m1, e1, t1⟩ := hi i hil 1 _ rfl
      obtain ⟨n1', q1, -, w1⟩ := DataW.trod_int Try.underlying2 t1
      simp at q1
      subst q1
      obtain ⟨u2, y2, m2, e2, t2⟩ := hi i hil 2 _ rfl
      obtain ⟨n2', q2, -, w2⟩ := DataW.trod_int Try.underlying3 t2
      simp at q2
      subst q2
      obtain ⟨u3, y3, m3, e3, t3⟩ := hi i hil 3 _ rfl
      obtain ⟨n3', q3, -, w3⟩ := DataW.trod_int Try.underlying3 t3
      simp at q3
      subst q3
      obtain ⟨u4, y4, m4, e4, t4⟩ := hi i hil 4 _ rfl
      obtain ⟨n4', q4, -, w4⟩ := DataW.trod_int Try.underlying32 t4
      simp at q4
      subst q4
      obtain ⟨u5, y5, m5, e5, t5⟩ := hi i hil 5 _ rfl
      obtain ⟨n5', q5, -, w5⟩ := DataW.trod_int Try.underlying32 t5
      simp at q5
      subst q5
      obtain ⟨u6, y6, m6, e6, t6⟩ := hi i hil 6 _ rfl
      obtain ⟨n6', q6, -, w6⟩ := DataW.trod_int Try.underlying2 t6
      simp at q6
      subst q6
      refine ⟨⟨n0', n1', n2', n3', n4', n5', n6'⟩, Fi.i64_wf w1, fun j u hj => ?_⟩
      match j, hj with
      | 0, hj => obtain rfl := Option.some.inj hj; exact e0
      | 1, hj => obtain rfl := Option.some.inj hj; exact e1
      | 2, hj => obtain rfl := Option.some.inj hj; exact e2
      | 3, hj => obtain rfl := Option.some.inj hj; exact e3
      | 4, hj => obtain rfl := Option.some.inj hj; exact e4
      | 5, hj => obtain rfl := Option.some.inj hj; exact e5
      | 6, hj => obtain rfl := Option.some.inj hj; exact e6
    obtain ⟨l, hll, hL, hg⟩ := lie_of fireC_len n0 hx
    subst hll
    exact ⟨l, ⟨_, _, rfl, hl, hm, (fun h => by cases h), hL⟩, hg⟩
end Go.Proofs.Ytaepkmjlkenenaa
