/- A firing, and a slice of rules, that came in. -/
import Derived.Test.YtaepkmjlkenenaaF18
namespace Go.Proofs.Ytaepkmjlkenenaa
open Go.ChangeShapes Go.WideShapes Go.RowKit Go.Deep

theorem open_fire {H : Type} {enc : TypeId × Value → H} {w : World} {r : Reach} {b0 : Nat} {v : Value} {d : DataW H} {p : List MemPlace} (hv : Value.okWide Try.prog w r b0 58 v) (h : DataW.Trod enc Try.prog w 0 (fun _ => true) true 58 v d p) :
    ∃ x : Fi.Fire, v = fireV x ∧ Fi.I64 x.at' := by
  obtain ⟨cs, n, rfl, hl, hf⟩ := open_agg Try.underlying58 (by kernel_rfl) (by kernel_rfl) hv h
  match cs, hl with
  | [c0, c1, c2, c3, c4, c5, c6], _ =>
    obtain ⟨y0, h0⟩ := hf 0 _ c0 rfl rfl
    obtain ⟨y1, h1⟩ := hf 1 _ c1 rfl rfl
    obtain ⟨y2, h2⟩ := hf 2 _ c2 rfl rfl
    obtain ⟨y3, h3⟩ := hf 3 _ c3 rfl rfl
    obtain ⟨y4, h4⟩ := hf 4 _ c4 rfl rfl
    obtain ⟨y5, h5⟩ := hf 5 _ c5 rfl rfl
    obtain ⟨y6, h6⟩ := hf 6 _ c6 rfl rfl
    obtain ⟨n0, e0, -, w0⟩ := DataW.trod_int Try.underlying32 h0
    obtain ⟨n1, e1, -, w1⟩ := DataW.trod_int Try.underlying2 h1
    obtain ⟨n2, e2, -, w2⟩ := DataW.trod_int Try.underlying3 h2
    obtain ⟨n3, e3, -, w3⟩ := DataW.trod_int Try.underlying3 h3
    obtain ⟨n4, e4, -, w4⟩ := DataW.trod_int Try.underlying32 h4
    obtain ⟨n5, e5, -, w5⟩ := DataW.trod_int Try.underlying32 h5
    obtain ⟨n6, e6, -, w6⟩ := DataW.trod_int Try.underlying2 h6
    simp at e0 e1 e2 e3 e4 e5 e6
    subst e0 e1 e2 e3 e4 e5 e6
    exact ⟨⟨n0, n1, n2, n3, n4, n5, n6⟩, rfl, Fi.i64_wf w1⟩
theorem open_rules {H : Type} {enc : TypeId × Value → H} {w : World} {r : Reach} {b0 : Nat} {v : Value} {d : DataW H} {p : List MemPlace} (hv : Value.okWide Try.prog w r b0 40 v) (h : DataW.Trod enc Try.prog w 0 (fun _ => true) true 40 v d p) :
    ∃ l : List Fi.Rule, Rus w v l := by
  obtain ⟨a0, n0, c0, rfl⟩ := okWide_slice Try.underlying40 hv
  obtain ⟨n, hn⟩ := h
  rcases open_slots Try.underlying40 Try.underlying34 (by kernel_rfl) (by kernel_rfl) ⟨n, hn⟩ with h0 | ⟨a, len, cap, h0, hl, hm, hi⟩
  · obtain ⟨rfl, rfl, rfl⟩ : a0 = none ∧ n0 = 0 ∧ c0 = 0 := by simpa [Value.cells] using h0
    exact ⟨[], Row.nil _ _⟩
  · obtain ⟨rfl, rfl, rfl⟩ : a0 = some a ∧ n0 = len ∧ c0 = cap := by simpa [Value.cells] using h0
    have hx : ∀ i, i < n0 → ∃ x : Fi.Rule, True ∧ ∀ j u, (ruC x)[j]? = some u → w.cell? (a.add (i * 3 + j)) = some u := by
      intro i hil
      obtain ⟨u0, y0, m0, e0, t0⟩ := hi i hil 0 _ rfl
      obtain ⟨n0', q0, -, w0⟩ := DataW.trod_int Try.underlying5 t0
      simp at q0
      subst q0
      obtain ⟨u1, y1, m1, e1, t1⟩ := hi i hil 1 _ rfl
      obtain ⟨n1', q1, -, w1⟩ := DataW.trod_int Try.underlying32 t1
      simp at q1
      subst q1
      obtain ⟨u2, y2, m2, e2, t2⟩ := hi i hil 2 _ rfl
      obtain ⟨n2', q2, -, w2⟩ := DataW.trod_int Try.underlying2 t2
      simp at q2
      subst q2
      refine ⟨⟨n0', n1', n2'⟩, trivial, fun j u hj => ?_⟩
      match j, hj with
      | 0, hj => obtain rfl := Option.some.inj hj; exact e0
      | 1, hj => obtain rfl := Option.some.inj hj; exact e1
      | 2, hj => obtain rfl := Option.some.inj hj; exact e2
    obtain ⟨l, hll, hL, hg⟩ := lie_of ruC_len n0 hx
    subst hll
    exact ⟨l, ⟨_, _, rfl, hl, hm, (fun h => by cases h), hL⟩⟩
end Go.Proofs.Ytaepkmjlkenenaa
