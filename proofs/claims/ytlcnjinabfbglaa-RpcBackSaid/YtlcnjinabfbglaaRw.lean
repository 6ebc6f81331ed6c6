/- The law of Rf, in the plain walk's words. -/
import Derived.Test.YtlcnjinabfbglaaSr2
import Derived.RangeFuncNested
import Derived.RangeFuncBound
import Derived.RangeFuncCalls
import Derived.RangeFuncLeaves
import Derived.Shelf.Abstract
import Derived.Shelf.RegionOpen
import Derived.OwnWalkIn
import Derived.TacticsInMore
import Derived.LoopNIn
import Derived.LoopIn
namespace Go.Proofs.Ytlcnjinabfbglaa
open Go.RowKit

theorem Below.putObj {B : Nat} {A W : World} (h : Below B A W) {l : Nat} (hl : B ≤ l) (o : Obj) : Below B A (W.putObj l o) :=
  h.trans ⟨rfl, rfl, rfl, by simp, fun k hk => World.putObj_heap_other (by omega)⟩

/-- what lies in cells is left -/
def Kc (A B : World) : Prop := A.heap.size ≤ B.heap.size ∧ ∀ (j : Nat) (cs : Array Value) (T : TypeId) (fr : Nat × Nat), A.heap[j]? = some (.cells cs T fr) → B.heap[j]? = some (.cells cs T fr)
theorem Kc.below {A B : World} (h : Below A.heap.size A B) : Kc A B := ⟨h.size, fun j _ _ _ hj => (h.block j (Array.getElem?_eq_some_iff.1 hj).1).trans hj⟩
theorem Kc.putObj {A : World} {l : Nat} {o' : Obj} (hl : A.heap[l]? = some o') (hn : ∀ cs T fr, o' ≠ .cells cs T fr) (o : Obj) : Kc A (A.putObj l o) :=
  ⟨by simp, fun j cs T fr hj => (World.putObj_heap_other (fun e => by subst e; rw [hl] at hj; exact hn cs T fr (Option.some.inj hj))).trans hj⟩
theorem Kc.trans {A B C : World} (h : Kc A B) (h2 : Kc B C) : Kc A C := ⟨Nat.le_trans h.1 h2.1, fun j cs T fr hj => h2.2 j cs T fr (h.2 j cs T fr hj)⟩
/-- THE ITERATOR's WORD -/
def SeqE (F : Fence) (n : Nat) (P : Program) (g : Nat) (lb : Array Value) (Enc : Nat → Array Value → World → Prop) (N : Nat) (K : World → Prop) : Prop :=
  ∀ (l : Nat) (J Jx : Nat → World → Prop) (W : World), (∀ s A, J s A → K A) →
    (∀ s A B, J s A → W.heap.size ≤ A.heap.size → Below A.heap.size A B → J s B) → (∀ s A B, Jx s A → W.heap.size ≤ A.heap.size → Below A.heap.size A B → Jx s B) →
    (∀ k W1 args, k < N → J k W1 → Enc k args W1 → W.heap.size ≤ W1.heap.size → YieldAt F (n - 1) P l args W1 fun e W' =>
      W1.heap.size ≤ W'.heap.size ∧ ((e = .returned (.bool true) ∧ J (k + 1) W') ∨ (e = .returned (.bool false) ∧ Jx (k + 1) W'))) →
    J 0 W →
    CallsIn F n P g (#[.func (.yield l) #[] #[]] ++ lb) W fun e W' => (∃ v, e = .returned v) ∧ (J N W' ∨ ∃ k, k < N ∧ Jx (k + 1) W')

/-- how the body of a round may be left; D, D + 1: the loop's own blocks -/
def ePost (D : Nat) (I : Nat → World → Prop) (Ix : Code → Nat → World → Prop) (k : Nat) (W : World) : Exit → Act → World → Prop
  | .normal, _, W' => (W.heap.size ≤ W'.heap.size ∧ W'.heap[D]? = W.heap[D]? ∧ W'.heap[D + 1]? = W.heap[D + 1]?) ∧ I k W'
  | .ret, _, W' => (W.heap.size ≤ W'.heap.size ∧ W'.heap[D]? = W.heap[D]? ∧ W'.heap[D + 1]? = W.heap[D + 1]?) ∧ Ix .ret k W'
  | .exit id, _, W' => (W.heap.size ≤ W'.heap.size ∧ W'.heap[D]? = W.heap[D]? ∧ W'.heap[D + 1]? = W.heap[D + 1]?) ∧ Ix (.exit id) k W'
  | .goto t, _, W' => (W.heap.size ≤ W'.heap.size ∧ W'.heap[D]? = W.heap[D]? ∧ W'.heap[D + 1]? = W.heap[D + 1]?) ∧ Ix (.goto t) k W'
  | .panic _, _, _ => False
  | .outgrown, _, _ => False

variable {F : Fence} {n : Nat} {P : Program}

theorem wpIn_rangeFunc_E {g : Operand} {ps : Array Tmp} {assign body : Code} {Q : Exit → Act → World → Prop} {a : Act} {w : World}
    (hro : F.round = none) (h1 : 1 ≤ n) {gf : Nat} {lb : Array Value} (hg : a.eval g = .func (.func gf) #[] lb) (hFg : F.fn gf) (eg : ∀ args w, (callFunc gf args).run P w = .ok (.enter gf args) w)
    {Enc : Nat → Array Value → World → Prop} {N : Nat} {K : World → Prop} (hseq : SeqE F (n - 1) P gf lb Enc N K) (hps : ∀ k args A, Enc k args A → args.size = ps.size) (hEnc : ∀ k args A B, Enc k args A → Kc A B → Enc k args B)
    (I : Nat → World → Prop) (Ix : Code → Nat → World → Prop) (hIK : ∀ s A, I s A → K A) (hI : ∀ s A B, I s A → Below w.heap.size A B → Kc A B → I s B) (hIx : ∀ c s A B, Ix c s A → Below w.heap.size A B → Kc A B → Ix c s B) (h0 : I 0 w) (a₁ : Nat → Array Value → Act)
    (hassign : ∀ (l : Nat) (k : Nat) (args : Array Value) (W : World) (K : Act → World → Prop), Enc k args W → K (a₁ k args) W →
      assign.wpIn (F.inRound l) (n - 1 - 1) P (Exit.then K (fun _ _ _ => False)) { tmps := (ps.zip args).foldl (fun t (p, v) => t.setIfInBounds p v) a.tmps, defers := [] } W)
    (hbody : ∀ (l : Nat) (k : Nat) (args : Array Value) (W : World), k < N → I k W → Enc k args W → w.heap.size + 2 ≤ W.heap.size → body.wpIn (F.inRound l) (n - 1 - 1) P (ePost w.heap.size I Ix (k + 1) W) (a₁ k args) W)
    (hdone : ∀ (D : Nat) (W : World), w.heap.size ≤ D → I N W → W.heap[D]? = some (.deferred (some [])) → Q .normal { a with defers := { target := .collected D, args := #[] } :: a.defers } W)
    (hstop : ∀ (D : Nat) (c : Code) (k : Nat) (W : World), w.heap.size ≤ D → k < N → Ix c (k + 1) W → W.heap[D]? = some (.deferred (some [])) → c.wpIn F n P Q { a with defers := { target := .collected D, args := #[] } :: a.defers } W) :
    (Code.rangeFunc g ps assign body).wpIn F n P Q a w := by
  refine wpIn_rangeFunc ?_
  intro fn hfn
  rw [hro]
  obtain ⟨rec, hrec⟩ : ∃ rec : LoopState → Option Code → Loop, rec = fun st pe => { state := st, pending := pe, fn, tmps := a.tmps, params := ps, assign, body, defers := w.heap.size } := ⟨_, rfl⟩
  obtain ⟨W1, hW1⟩ : ∃ W1, (w.alloc (.deferred (some []))).alloc (.loop (rec .ready none)) = W1 := ⟨_, rfl⟩
  have hL1 : W1.heap[w.heap.size + 1]? = some (.loop (rec .ready none)) := by
    rw [← hW1]; have := World.alloc_heap_new (w.alloc (.deferred (some []))) (.loop (rec .ready none)); rwa [World.size_alloc] at this
  have hK1 : W1.heap[w.heap.size]? = some (.deferred (some [])) := by
    rw [← hW1]; exact (Below.heap_alloc _ _ _ (by simp)).trans (World.alloc_heap_new w _)
  have hs1 : W1.heap.size = w.heap.size + 2 := by rw [← hW1]; simp
  have hb1 : Below w.heap.size w W1 := by
    rw [← hW1]; exact Below.al (Below.al (Below.refl _ w) _) _
  have hI1 : I 0 W1 := hI _ _ _ h0 hb1 (Kc.below hb1)
  have notc : ∀ lo : Loop, ∀ cs T fr, Obj.loop lo ≠ .cells cs T fr := fun _ _ _ _ h => by cases h
  refine ⟨w.heap.size + 1, [{ target := .collected w.heap.size, args := #[] }], W1, { target := .fn (.func gf) lb, args := #[.func (.yield (w.heap.size + 1)) #[] #[]] }, W1, gf,
    #[.func (.yield (w.heap.size + 1)) #[] #[]] ++ lb, W1, ?_, ?_, ?_, ?_, fun _ => h1, ?_⟩
  · rw [← hW1, hrec]; exact run_enterLoop_outer _ _ _ _ _
  · simp only [resolve, hg]
    simp [go_sem]
  · intro f' hf'; simp [Target.leads] at hf'; subst hf'; exact hFg
  · simp [invoke, go_sem, eg]
  · refine (hseq (w.heap.size + 1)
      (fun s W => I s W ∧ W.heap[w.heap.size + 1]? = some (.loop (rec .ready none)) ∧ W.heap[w.heap.size]? = some (.deferred (some [])))
      (fun s W => ∃ c, Ix c s W ∧ W.heap[w.heap.size + 1]? = some (.loop (rec .done (some c))) ∧ W.heap[w.heap.size]? = some (.deferred (some [])))
      W1 (fun s A hs => hIK s A hs.1)
      (fun s A B hs hz hb => ⟨hI s A B hs.1 (hb.mono (by omega)) (Kc.below hb), (hb.block _ (by omega)).trans hs.2.1, (hb.block _ (by omega)).trans hs.2.2⟩)
      (fun s A B hs hz hb => by
        obtain ⟨c, hc, hl, hk⟩ := hs
        exact ⟨c, hIx c s A B hc (hb.mono (by omega)) (Kc.below hb), (hb.block _ (by omega)).trans hl, (hb.block _ (by omega)).trans hk⟩)
      ?_ ⟨hI1, hL1, hK1⟩).mono ?_
    · rintro k W args hkN ⟨hi, hl, hk⟩ he hsz
      have hlt : w.heap.size + 1 < W.heap.size := (Array.getElem?_eq_some_iff.1 hl).1
      have hy := run_yield (P := P) (args := args) hl (by rw [hrec]; exact hps k _ _ he)
      rw [hrec] at hy
      refine ⟨fn, _, assign, body, hy, roundIn_of_wpIn hfn (hassign _ k args W _ he ⟨_, run_beginRound hl (by rw [hrec]), ?_⟩)⟩
      have hl2 : (W.putObj (w.heap.size + 1) (.loop { rec .ready none with state := .busy })).heap[w.heap.size + 1]? = some (.loop { rec .ready none with state := .busy }) := World.putObj_heap_same hlt
      have hk2 : (W.putObj (w.heap.size + 1) (.loop { rec .ready none with state := .busy })).heap[w.heap.size]? = some (.deferred (some [])) := (World.putObj_heap_other (by omega)).trans hk
      have hz2 : (W.putObj (w.heap.size + 1) (.loop { rec .ready none with state := .busy })).heap.size = W.heap.size := by simp
      have hc2 : Kc W (W.putObj (w.heap.size + 1) (.loop { rec .ready none with state := .busy })) := Kc.putObj hl (notc _) _
      refine wpIn_mono (hbody _ k args _ hkN (hI _ _ _ hi (Below.putObj (Below.refl _ W) (by omega) _) hc2) (hEnc _ _ _ _ he hc2) (by simp; omega)) ?_
      generalize hW2 : W.putObj (w.heap.size + 1) (.loop { rec .ready none with state := .busy }) = W2 at *
      have fin : ∀ (jump : Option Code) (W3 : World), W2.heap.size ≤ W3.heap.size ∧ W3.heap[w.heap.size]? = W2.heap[w.heap.size]? ∧ W3.heap[w.heap.size + 1]? = W2.heap[w.heap.size + 1]? →
          (Instr.endRound (w.heap.size + 1) jump).run P W3 = .ok (.bool jump.isNone) (W3.putObj (w.heap.size + 1) (.loop (rec (if jump.isNone then .ready else .done) jump))) ∧
          (W3.putObj (w.heap.size + 1) (.loop (rec (if jump.isNone then .ready else .done) jump))).heap[w.heap.size + 1]? = some (.loop (rec (if jump.isNone then .ready else .done) jump)) ∧
          (W3.putObj (w.heap.size + 1) (.loop (rec (if jump.isNone then .ready else .done) jump))).heap[w.heap.size]? = some (.deferred (some [])) ∧
          Kc W3 (W3.putObj (w.heap.size + 1) (.loop (rec (if jump.isNone then .ready else .done) jump))) ∧
          W.heap.size ≤ (W3.putObj (w.heap.size + 1) (.loop (rec (if jump.isNone then .ready else .done) jump))).heap.size := fun jump W3 hk3 => by
        have hl3 := hk3.2.2.trans hl2
        have hk4 := hk3.2.1.trans hk2
        have := run_endRound (P := P) jump hl3
        rw [hrec] at this ⊢
        exact ⟨this, World.putObj_heap_same (Array.getElem?_eq_some_iff.1 hl3).1, (World.putObj_heap_other (by omega)).trans hk4, Kc.putObj hl3 (notc _) _, by have := hk3.1; simp; omega⟩
      have keep : ∀ (W3 : World) (o : Obj), Below w.heap.size W3 (W3.putObj (w.heap.size + 1) o) := fun W3 o => Below.putObj (Below.refl _ W3) (by omega) _
      rintro e a3 W3 hp
      cases e with
      | normal =>
        obtain ⟨hk3, hi3⟩ := hp
        obtain ⟨hr, hl4, hk4, hc4, hz4⟩ := fin none W3 hk3
        exact ⟨_, _, hr, hz4, .inl ⟨rfl, hI _ _ _ hi3 (keep _ _) hc4, hl4, hk4⟩⟩
      | ret =>
        obtain ⟨hk3, hi3⟩ := hp
        obtain ⟨hr, hl4, hk4, hc4, hz4⟩ := fin (some .ret) W3 hk3
        exact ⟨_, _, hr, hz4, .inr ⟨rfl, .ret, hIx _ _ _ _ hi3 (keep _ _) hc4, hl4, hk4⟩⟩
      | exit id =>
        obtain ⟨hk3, hi3⟩ := hp
        obtain ⟨hr, hl4, hk4, hc4, hz4⟩ := fin (some (.exit id)) W3 hk3
        exact ⟨_, _, hr, hz4, .inr ⟨rfl, .exit id, hIx _ _ _ _ hi3 (keep _ _) hc4, hl4, hk4⟩⟩
      | goto t =>
        obtain ⟨hk3, hi3⟩ := hp
        obtain ⟨hr, hl4, hk4, hc4, hz4⟩ := fin (some (.goto t)) W3 hk3
        exact ⟨_, _, hr, hz4, .inr ⟨rfl, .goto t, hIx _ _ _ _ hi3 (keep _ _) hc4, hl4, hk4⟩⟩
      | panic ch => exact hp.elim
      | outgrown => exact hp.elim
    · rintro e W2 ⟨⟨v, rfl⟩, (⟨hi, hl, hk⟩ | ⟨k, hkN, c, hi, hl, hk⟩)⟩
      · exact ⟨none, _, by have := run_endLoop (P := P) hl (by rw [hrec]; simp); rw [hrec] at this; exact this, hdone _ _ (Nat.le_refl _) (hI _ _ _ hi (Below.putObj (Below.refl _ _) (by omega) _) (Kc.putObj hl (notc _) _)) ((World.putObj_heap_other (by omega)).trans hk)⟩
      · exact ⟨some c, _, by have := run_endLoop (P := P) hl (by rw [hrec]; simp); rw [hrec] at this; exact this, hstop _ c k _ (Nat.le_refl _) hkN (hIx _ _ _ _ hi (Below.putObj (Below.refl _ _) (by omega) _) (Kc.putObj hl (notc _) _)) ((World.putObj_heap_other (by omega)).trans hk)⟩
end Go.Proofs.Ytlcnjinabfbglaa
namespace Go.Proofs.Ytlcnjinabfbglaa
open Go.RowKit
variable {P : Program}
theorem calls_marks {f : FuncId} {fn : Func} {c : Code} {args : Array Value} {w : World} {R : Ending → World → Prop} (hf : P.funcs[f]? = some fn) (hb : fn.body = some c)
    (h : c.wp P (bodyPostM Fence.wide 9 P fn R) { tmps := args ++ Array.replicate (fn.ntmps - args.size) undef, defers := [] } w) : Calls P f args w R :=
  (callsIn_wide (n := 9)).1 (callsIn_of_wp_marks hf hb trivial (wpIn_wide.2 h) rfl)
theorem wp_rangeFunc_E {g : Operand} {ps : Array Tmp} {assign body : Code} {Q : Exit → Act → World → Prop} {a : Act} {w : World}
    {gf : Nat} {lb : Array Value} (hg : a.eval g = .func (.func gf) #[] lb) (eg : ∀ args w, (callFunc gf args).run P w = .ok (.enter gf args) w)
    {Enc : Nat → Array Value → World → Prop} {N : Nat} {K : World → Prop} (hseq : SeqE Fence.wide 8 P gf lb Enc N K) (hps : ∀ k args A, Enc k args A → args.size = ps.size) (hEnc : ∀ k args A B, Enc k args A → Kc A B → Enc k args B)
    (I : Nat → World → Prop) (Ix : Code → Nat → World → Prop) (hIK : ∀ s A, I s A → K A) (hI : ∀ s A B, I s A → Below w.heap.size A B → Kc A B → I s B) (hIx : ∀ c s A B, Ix c s A → Below w.heap.size A B → Kc A B → Ix c s B) (h0 : I 0 w) (a₁ : Nat → Array Value → Act)
    (hassign : ∀ (l : Nat) (k : Nat) (args : Array Value) (W : World) (K : Act → World → Prop), Enc k args W → K (a₁ k args) W →
      assign.wpIn (Fence.wide.inRound l) 7 P (Exit.then K (fun _ _ _ => False)) { tmps := (ps.zip args).foldl (fun t (p, v) => t.setIfInBounds p v) a.tmps, defers := [] } W)
    (hbody : ∀ (l : Nat) (k : Nat) (args : Array Value) (W : World), k < N → I k W → Enc k args W → w.heap.size + 2 ≤ W.heap.size → body.wpIn (Fence.wide.inRound l) 7 P (ePost w.heap.size I Ix (k + 1) W) (a₁ k args) W)
    (hdone : ∀ (D : Nat) (W : World), w.heap.size ≤ D → I N W → W.heap[D]? = some (.deferred (some [])) → Q .normal { a with defers := { target := .collected D, args := #[] } :: a.defers } W)
    (hstop : ∀ (D : Nat) (c : Code) (k : Nat) (W : World), w.heap.size ≤ D → k < N → Ix c (k + 1) W → W.heap[D]? = some (.deferred (some [])) → c.wp P Q { a with defers := { target := .collected D, args := #[] } :: a.defers } W) :
    (Code.rangeFunc g ps assign body).wp P Q a w :=
  wpIn_wide.1 (wpIn_rangeFunc_E (n := 9) rfl (by omega) hg trivial eg hseq hps hEnc I Ix hIK hI hIx h0 a₁ hassign hbody hdone (fun D c k W h1 h2 h3 h4 => wpIn_wide.2 (hstop D c k W h1 h2 h3 h4)))
end Go.Proofs.Ytlcnjinabfbglaa
