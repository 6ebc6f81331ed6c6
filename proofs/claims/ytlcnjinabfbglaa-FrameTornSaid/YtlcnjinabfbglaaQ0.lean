/- PutText by size; a sharper word of the worlds that may come in a drawn region (both stand in P7 too: never import both). -/
import Derived.Test.YtlcnjinabfbglaaP8
import Derived.Deep.RegionHeld3
namespace Go.Proofs.Ytlcnjinabfbglaa
open Go.RowKit
theorem putText_le (s : ByteArray) (w : World) (hs : s.size ≤ 4096) :
    Calls Try.prog 19 #[.string s] w fun e w' => ∃ v, e = .returned (.tuple #[v, .int .i64 0]) ∧ Below w.heap.size w w' ∧ OwnB w.heap.size w' v (Pk.putText (sb s)) := by
  refine (putText_any s w (by omega)).mono ?_
  rintro e w1 ⟨v, hb, ⟨-, he, ho⟩ | ⟨h, -⟩⟩
  · exact ⟨v, he, hb, ho⟩
  · omega
theorem putText_gt (s : ByteArray) (w : World) (hs : 4096 < s.size) (h2 : s.size ≤ 140737488351232) :
    Calls Try.prog 19 #[.string s] w fun e w' => e = .returned (.tuple #[.slice none 0 0, .int .i64 3]) ∧ Below w.heap.size w w' := by
  refine (putText_any s w (by omega)).mono ?_
  rintro e w1 ⟨v, hb, ⟨h, -⟩ | ⟨-, he⟩⟩
  · omega
  · exact ⟨he, hb⟩
theorem refPutText_le (s : ByteArray) (w : World) (hs : s.size ≤ 4096) :
    Calls Try.prog 20 #[.string s] w fun e w' => ∃ v, e = .returned (.tuple #[v, .int .i64 0]) ∧ Below w.heap.size w w' ∧ OwnB w.heap.size w' v (Pk.putText (sb s)) := by
  refine (refPutText_any s w (by omega)).mono ?_
  rintro e w1 ⟨v, hb, ⟨-, he, ho⟩ | ⟨h, -⟩⟩
  · exact ⟨v, he, hb, ho⟩
  · omega
theorem refPutText_gt (s : ByteArray) (w : World) (hs : 4096 < s.size) (h2 : s.size ≤ 140737488351232) :
    Calls Try.prog 20 #[.string s] w fun e w' => e = .returned (.tuple #[.slice none 0 0, .int .i64 3]) ∧ Below w.heap.size w w' := by
  refine (refPutText_any s w (by omega)).mono ?_
  rintro e w1 ⟨v, hb, ⟨h, -⟩ | ⟨-, he⟩⟩
  · omega
  · exact ⟨he, hb⟩

/-- what holds in every world that may come: it may be said more sharply -/
theorem sharpen {P : Program} {md : Region.Mode} {ops : Array Oper} {Q : Exit → Act → World → Prop} {S S' : World → Prop} (hS : ∀ w, S' w → S w) :
    ∀ (fuel : Nat) (listed : Array Bool) (a : Act) (w : World), wpAnyH P md ops Q S' fuel listed a w → wpAnyH P md ops Q S fuel listed a w
  | 0, _, _, _, h => h
  | fuel + 1, _, _, _, h => ⟨h.1, fun i hi => wpOp_mono (fun a' w' h' => ⟨hS _ h'.1, sharpen hS fuel _ a' w' h'.2⟩) (h.2 i hi)⟩

end Go.Proofs.Ytlcnjinabfbglaa
