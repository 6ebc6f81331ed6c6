/- The law of Rf, in the plain walk's words. -/
import Derived.Test.YtlcnjinabfbglaaRf
namespace Go.Proofs.Ytlcnjinabfbglaa
open Go.RowKit
variable {P : Program}
theorem calls_marks {f : FuncId} {fn : Func} {c : Code} {args : Array Value} {w : World} {R : Ending → World → Prop} (hf : P.funcs[f]? = some fn) (hb : fn.body = some c)
    (h : c.wp P (bodyPostM Fence.wide 9 P fn R) { tmps := args ++ Array.replicate (fn.ntmps - args.size) undef, defers := [] } w) : Calls P f args w R :=
  (callsIn_wide (n := 9)).1 (callsIn_of_wp_marks hf hb trivial (wpIn_wide.2 h) rfl)
theorem wp_rangeFunc_E {g : Operand} {ps : Array Tmp} {assign body : Code} {Q : Exit → Act → World → Prop} {a : Act} {w : World}
    {gf : Nat} {lb : Array Value} (hg : a.eval g = .func (.func gf) #[] lb) (eg : ∀ args w, (callFunc gf args).run P w = .ok (.enter gf args) w)
    {Enc : Nat → Array Value → World → Prop} {N : Nat} {K : World → Prop} (hseq : SeqE Fence.wide 8 P gf lb Enc N K) (hps : ∀ k args A, Enc k args A → args.size = ps.size) (hEnc : ∀ k args A B, Enc k args A → Kc A B → Enc k args B)
    (I : Nat → World → Prop) (Ix : Code → Nat → World → Prop) (hIK : ∀ s A, I s A → K A) (hI : ∀ s A B, I s A → Below w.heap.size A B → Kc A B → I s B) (hIx : ∀ c s A B, Ix c s A → Below w.heap.size A B → Kc A B → Ix c s B) (h0 : I 0 w) (a₁ : Nat → Array Value → Act)
    (hassign : ∀ (l : Nat) (k : Nat) (args : Array Value) (W : World) (K : Act → World → Prop), Enc k args W → K (a₁ k args) W →
      assign.wpIn (Fence.wide.inRound l) 7 P (Exit.then K (fun _ _ _ => False)) { tmps := (ps.zip args).foldl (fun t (p, v) => t.setIfInBounds p v) a.tmps, defers := [] } W)
    (hbody : ∀ (l : Nat) (k : Nat) (args : Array Value) (W : World), k < N → I k W → Enc k args W → w.heap.size + 2 ≤ W.heap.size → body.wpIn (Fence.wide.inRound l) 7 P (ePost w.heap.size I Ix (k + 1) W) (a₁ k args) W)
    (hdone : ∀ (D : Nat) (W : World), w.heap.size ≤ D → I N W → W.heap[D]? = some (.deferred (some [])) → Q .normal { a with defers := { target := .collected D, args := #[] } :: a.defers } W)
    (hstop : ∀ (D : Nat) (c : Code) (k : Nat) (W : World), w.heap.size ≤ D → k < N → Ix c (k + 1) W → W.heap[D]? = some (.deferred (some [])) → c.wp P Q { a with defers := { target := .collected D, args := #[] } :: a.defers } W) :
    (Code.rangeFunc g ps assign body).wp P Q a w :=
  wpIn_wide.1 (wpIn_rangeFunc_E (n := 9) rfl (by omega) hg trivial eg hseq hps hEnc I Ix hIK hI hIx h0 a₁ hassign hbody hdone (fun D c k W h1 h2 h3 h4 => wpIn_wide.2 (hstop D c k W h1 h2 h3 h4)))
end Go.Proofs.Ytlcnjinabfbglaa
