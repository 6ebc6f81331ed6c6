/- A rule that came in. -/
import Derived.Test.YtaepkmjlkenenaaF17
namespace Go.Proofs.Ytaepkmjlkenenaa
open Go.ChangeShapes Go.WideShapes Go.RowKit

theorem open_rule {H : Type} {enc : TypeId × Value → H} {w : World} {r : Reach} {b0 : Nat} {v : Value} {d : DataW H} {p : List MemPlace} (hv : Value.okWide Try.prog w r b0 34 v) (h : DataW.Trod enc Try.prog w 0 (fun _ => true) true 34 v d p) :
    ∃ x : Fi.Rule, v = ruleV x := by
  obtain ⟨cs, n, rfl, hl, hf⟩ := open_agg Try.underlying34 (by kernel_rfl) (by kernel_rfl) hv h
  match cs, hl with
  | [c0, c1, c2], _ =>
    obtain ⟨y0, h0⟩ := hf 0 _ c0 rfl rfl
    obtain ⟨y1, h1⟩ := hf 1 _ c1 rfl rfl
    obtain ⟨y2, h2⟩ := hf 2 _ c2 rfl rfl
    obtain ⟨n0, e0, -, w0⟩ := DataW.trod_int Try.underlying5 h0
    obtain ⟨n1, e1, -, w1⟩ := DataW.trod_int Try.underlying32 h1
    obtain ⟨n2, e2, -, w2⟩ := DataW.trod_int Try.underlying2 h2
    simp at e0 e1 e2
    subst e0 e1 e2
    exact ⟨⟨n0, n1, n2⟩, rfl⟩
end Go.Proofs.Ytaepkmjlkenenaa
