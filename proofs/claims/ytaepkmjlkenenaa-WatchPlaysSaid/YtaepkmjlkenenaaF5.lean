import Derived.Test.YtaepkmjlkenenaaF4
import Derived.Test.YtaepkmjlkenenaaSr2
import Derived.Test.YtaepkmjlkenenaaFi3
namespace Go.Proofs.Ytaepkmjlkenenaa
open Go.RowKit

/-- off the blocks Fr everything that was there is as it was -/
structure Off (Fr : Nat → Prop) (W W' : World) : Prop where
  size : W.heap.size ≤ W'.heap.size
  same : ∀ k, k < W.heap.size → ¬ Fr k → W'.heap[k]? = W.heap[k]?
theorem Off.refl (Fr : Nat → Prop) (W : World) : Off Fr W W := ⟨Nat.le_refl _, fun _ _ _ => rfl⟩
theorem Off.trans {Fr : Nat → Prop} {A B C : World} (h : Off Fr A B) (k : Off Fr B C) : Off Fr A C :=
  ⟨Nat.le_trans h.size k.size, fun i hi hf => (k.same i (Nat.lt_of_lt_of_le hi h.size) hf).trans (h.same i hi hf)⟩
theorem Off.mono {Fr Fr' : Nat → Prop} {A B : World} (h : Off Fr A B) (hf : ∀ k, Fr k → Fr' k) : Off Fr' A B := ⟨h.size, fun i hi hn => h.same i hi (fun h' => hn (hf i h'))⟩
theorem Off.below {Fr : Nat → Prop} {A B : World} (h : Below A.heap.size A B) : Off Fr A B := ⟨h.size, fun i hi _ => h.block i hi⟩
theorem Off.then {Fr : Nat → Prop} {A B C : World} (h : Off Fr A B) (k : Below B.heap.size B C) : Off Fr A C := h.trans (.below k)
theorem Off.setCell {Fr : Nat → Prop} {A B : World} (h : Off Fr A B) {a : Addr} (ha : Fr a.block) (v : Value) : Off Fr A (B.setCell a v) :=
  ⟨by simpa [World.setCell] using h.size, fun k hk hf => (Below.heap_setCell B a v k (fun e => hf (by subst e; exact ha))).trans (h.same k hk hf)⟩
theorem Off.num {Fr : Nat → Prop} {A B : World} {b : Nat} {t : TypeId} {v : Value} (h : Off Fr A B) (hN : NumAt A b t v) (hf : ¬ Fr b) : NumAt B b t v := by
  unfold NumAt; rw [h.same b hN.lt hf]; exact hN

def stC (s : Fi.St) : List Value := [.int .u8 s.rule.kind, .int .u64 s.rule.job, .int .i64 s.rule.n, .bool s.on, .int .i64 s.since]
theorem stC_len (s : Fi.St) : (stC s).length = 5 := rfl
theorem st_one (s : Fi.St) : ∀ u ∈ stC s, u.oneCell' = true := by
  intro u hu
  simp only [stC, List.mem_cons, List.not_mem_nil, or_false] at hu
  rcases hu with rfl | rfl | rfl | rfl | rfl <;> rfl
def alC (a : Fi.Alarm) : List Value := [.int .i64 a.rule, .bool a.on, .int .i64 a.at']
theorem alC_len (s : Fi.Alarm) : (alC s).length = 3 := rfl
theorem al_one (s : Fi.Alarm) : ∀ u ∈ alC s, u.oneCell' = true := by
  intro u hu
  simp only [alC, List.mem_cons, List.not_mem_nil, or_false] at hu
  rcases hu with rfl | rfl | rfl <;> rfl
theorem Try.info53 : (Try.prog.info? 53).map (fun i => (i.zero, i.size, i.bytes)) = some (some (.agg #[.int .i64 0, .bool false, .int .i64 0]), 3, 24) := by kernel_rfl
theorem Try.info88 : (Try.prog.info? 88).map (fun i => (i.zero, i.size, i.bytes)) = some (some (.agg #[.int .u8 0, .int .u64 0, .int .i64 0, .bool false, .int .i64 0]), 5, 40) := by kernel_rfl
/-- a watch in memory: its head in block b, its states in v -/
structure WV (w : World) (b : Nat) (v : Value) (l : List Fi.St) (last : Int) : Prop where
  head : w.heap[b]? = some (.cells #[v, .int .i64 last] 83 (0, 0))
  own : w.ownsRow (b + 1) 88 5 v l.length (l.flatMap stC)
theorem WV.lt {w : World} {b : Nat} {v : Value} {l : List Fi.St} {last : Int} (h : WV w b v l last) : b < w.heap.size := (Array.getElem?_eq_some_iff.1 h.head).1
theorem WV.c0 {w : World} {b : Nat} {v : Value} {l : List Fi.St} {last : Int} (h : WV w b v l last) : w.cell? ⟨b, 0, none⟩ = some v ∧ w.cell? ⟨b, 1, none⟩ = some (.int .i64 last) := by
  refine ⟨?_, ?_⟩ <;> (rw [cell_of_row w b _ _ 83 (0, 0) h.head]; rfl)
theorem WV.froz {w : World} {b : Nat} {v : Value} {l : List Fi.St} {last : Int} (h : WV w b v l last) (i : Nat) : w.frozen? ⟨b, i, none⟩ = false := frozen_of_row w b i _ 83 h.head
theorem WV.keep {w w' : World} {b : Nat} {v : Value} {l : List Fi.St} {last : Int} (h : WV w b v l last) (hb : Below w.heap.size w w') : WV w' b v l last :=
  ⟨by rw [hb.block b h.lt]; exact h.head, ownN_keepAt h.own (fun j hj => hb.block j (World.ownsRow.lt h.own j hj).2)⟩
theorem WV.set1 {w : World} {b : Nat} {v : Value} {l : List Fi.St} {last : Int} (h : WV w b v l last) (x : Int) : WV (w.setCell ⟨b, 1, none⟩ (.int .i64 x)) b v l x :=
  ⟨heap_setCell_same w b 1 _ 83 (.int .i64 x) h.head, ownN_keepAt h.own (fun j hj => Below.heap_setCell _ _ _ _ (by have := (World.ownsRow.lt h.own j hj).1; simp; omega))⟩
/-- the k-th state is turned -/
theorem WV.turn {w : World} {b g n cap : Nat} {l : List Fi.St} {last : Int} (h : WV w b (.slice (some ⟨g, 0, none⟩) n cap) l last) (k : Nat) (s : Fi.St) (hk : l[k]? = some s) (on : Bool) (since : Int) :
    WV ((w.setCell ⟨g, k * 5 + 3, none⟩ (.bool on)).setCell ⟨g, k * 5 + 4, none⟩ (.int .i64 since)) b (.slice (some ⟨g, 0, none⟩) n cap) (l.set k { s with on := on, since := since }) last := by
  obtain ⟨g', cap', hv, hg, -⟩ := ownN_row h.own (by have := (List.getElem?_eq_some_iff.1 hk).1; omega)
  simp only [Value.slice.injEq, Option.some.injEq, Addr.mk.injEq, and_true, true_and] at hv
  obtain ⟨rfl, hn, rfl⟩ := hv
  subst hn
  refine ⟨?_, ?_⟩
  · rw [Below.heap_setCell _ _ _ _ (by simp; omega), Below.heap_setCell _ _ _ _ (by simp; omega)]; exact h.head
  · have h2 := ownN_set (ownN_set h.own (k * 5 + 3) (.bool on)) (k * 5 + 4) (.int .i64 since)
    rw [List.length_set]
    rw [flat_set stC 5 stC_len l k s { s with on := on } 3 (.bool on) hk (by omega) rfl] at h2
    rw [flat_set stC 5 stC_len (l.set k { s with on := on }) k { s with on := on } { s with on := on, since := since } 4 (.int .i64 since) (by simp [(List.getElem?_eq_some_iff.1 hk).1]) (by omega) rfl, List.set_set] at h2
    exact h2
end Go.Proofs.Ytaepkmjlkenenaa
