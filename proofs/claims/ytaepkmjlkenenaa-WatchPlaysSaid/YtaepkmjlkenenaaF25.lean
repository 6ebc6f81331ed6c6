/- What a function keeps that goes over an iterator in each round of a loop: the marks left behind, taken at its end. -/
import Derived.Test.YtaepkmjlkenenaaF23
namespace Go.Proofs.Ytaepkmjlkenenaa
open Go.RowKit

/-- the marks, the youngest first: each in a block of its own above N -/
def DefOk (N : Nat) (W : World) : List Deferred → Prop
  | [] => True
  | d :: r => (∃ D, N < D ∧ d = { target := .collected D, args := #[] } ∧ W.heap[D]? = some (.deferred (some []))) ∧ d ∉ r ∧ DefOk N W r
theorem DefOk.of {N : Nat} {W : World} : ∀ {ds : List Deferred}, DefOk N W ds → ∀ d ∈ ds, ∃ D, N < D ∧ d = { target := .collected D, args := #[] } ∧ W.heap[D]? = some (.deferred (some []))
  | x :: r, h, d, hd => by
    rcases List.mem_cons.1 hd with rfl | hd
    · exact h.1
    · exact DefOk.of h.2.2 d hd
theorem DefOk.to {N : Nat} {W W' : World} : ∀ {ds : List Deferred}, DefOk N W ds → (∀ D, ({ target := .collected D, args := #[] } : Deferred) ∈ ds → W.heap[D]? = some (.deferred (some [])) → W'.heap[D]? = some (.deferred (some []))) → DefOk N W' ds
  | [], _, _ => trivial
  | x :: r, h, hs => by
    obtain ⟨⟨D, h1, rfl, h3⟩, h4, h5⟩ := h
    exact ⟨⟨D, h1, rfl, hs D (List.mem_cons_self ..) h3⟩, h4, DefOk.to h5 (fun D' hm => hs D' (List.mem_cons_of_mem _ hm))⟩
theorem DefOk.off {N : Nat} {Fr : Nat → Prop} {W W' : World} {ds : List Deferred} (h : DefOk N W ds) (ho : Off Fr W W') (hf : ∀ k, Fr k → W.heap[k]? ≠ some (.deferred (some []))) : DefOk N W' ds :=
  h.to fun D _ hD => by
    have hlt : D < W.heap.size := (Array.getElem?_eq_some_iff.1 hD).1
    rw [ho.same D hlt (fun hk => hf D hk hD)]
    exact hD
theorem DefOk.keep {N : Nat} {W W' : World} {ds : List Deferred} (h : DefOk N W ds) (hb : Below W.heap.size W W') : DefOk N W' ds :=
  h.off (Fr := fun _ => False) (.below hb) (fun _ hk => hk.elim)
theorem DefOk.cons {N : Nat} {W W' : World} {ds : List Deferred} (h : DefOk N W ds) (h' : DefOk N W' ds) {D : Nat} (hN : N < D) (hD : W.heap.size ≤ D) (hk : W'.heap[D]? = some (.deferred (some []))) : DefOk N W' ({ target := .collected D, args := #[] } :: ds) := by
  refine ⟨⟨D, hN, rfl, hk⟩, fun hm => ?_, h'⟩
  obtain ⟨D', -, he, hk'⟩ := h.of _ hm
  have : D' < W.heap.size := (Array.getElem?_eq_some_iff.1 hk').1
  have : D = D' := by simpa using he
  omega
/-- at the end of a law's function whose result is a cell: the marks are taken one by one -/
theorem leaves_all {P : Program} {fn : Func} {tmps : Array Value} {w0 : World} {N : Nat} (hres : ∀ w, NumAt w N 4 (.bool true) → Below N w0 w → LeavesInM Fence.wide 9 P fn tmps (fun e w' => e = .returned (.bool true) ∧ Below N w0 w') [] .returning w) :
    ∀ (ds : List Deferred) (w : World), DefOk N w ds → NumAt w N 4 (.bool true) → Below N w0 w → LeavesInM Fence.wide 9 P fn tmps (fun e w' => e = .returned (.bool true) ∧ Below N w0 w') ds .returning w
  | [], w, _, hn, hb => hres w hn hb
  | d :: r, w, hd, hn, hb => by
    obtain ⟨⟨D, h1, rfl, h3⟩, h4, h5⟩ := hd
    have hD : D < w.heap.size := (Array.getElem?_eq_some_iff.1 h3).1
    refine ⟨by simp, .inl ⟨_, _, rfl, run_takeDeferred h3, ?_⟩⟩
    refine leaves_all hres r _ ?_ ?_ ?_
    · refine h5.to fun D' hm hk' => ?_
      have hne : D' ≠ D := by rintro rfl; exact h4 hm
      rw [World.putObj_heap_other hne]; exact hk'
    · exact hn.keepAt (Below.putObj (Below.refl (N + 1) w) (l := D) (by omega) (.deferred none)) (by omega)
    · exact Below.putObj hb (l := D) (by omega) (.deferred none)
theorem leavesM_same {F : Fence} {n : Nat} {P : Program} {fn : Func} {R : Ending → World → Prop} {t t' : Array Value} (hr : results fn t = results fn t') : ∀ (ds : List Deferred) (u : FrameMode) (w : World), LeavesInM F n P fn t R ds u w → LeavesInM F n P fn t' R ds u w
  | [], .returning, w, h => by
    obtain ⟨v, h1, h2⟩ := h
    exact ⟨v, by rw [← hr]; exact h1, h2⟩
  | [], .panicking _, w, h => h
  | [], .run, w, h => h
  | d :: ds, u, w, h => by
    obtain ⟨h0, h | h⟩ := h
    · obtain ⟨r, w', h1, h2, h3⟩ := h
      exact ⟨h0, .inl ⟨r, w', h1, h2, leavesM_same hr ds u w' h3⟩⟩
    · obtain ⟨h1, fv, cap, f, args, h2, h3, h4, h5⟩ := h
      refine ⟨h0, .inr ⟨h1, fv, cap, f, args, h2, h3, h4, h5.mono ?_⟩⟩
      intro e u' w' h6
      cases e with
      | returned v => exact leavesM_same hr ds _ w' h6
      | panicked c => exact leavesM_same hr ds _ w' h6
      | outgrown => exact h6
theorem leaves_put {fn : Func} {R : Ending → World → Prop} {F : Fence} {n : Nat} {P : Program} (k : Nat) {T : TypeId} (hfn : fn.results = #[ResultVar.cell k T]) {u : FrameMode} {a : Act} {w : World} {d : Nat} {v : Value} (hd : d ≠ k) (h : LeavesInM F n P fn (a.put (some d) v).tmps R (a.put (some d) v).defers u w) : LeavesInM F n P fn a.tmps R a.defers u w := by
  refine leavesM_same ?_ _ _ _ h
  unfold results
  rw [hfn]
  simp [Act.put, hd]
end Go.Proofs.Ytaepkmjlkenenaa
