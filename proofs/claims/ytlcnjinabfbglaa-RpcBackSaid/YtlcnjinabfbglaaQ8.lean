/- Rows of records in memory: what is kept, an append of one. -/
import Derived.Test.YtlcnjinabfbglaaQ7
import Derived.Test.YtlcnjinabfbglaaRw
namespace Go.Proofs.Ytlcnjinabfbglaa
open Go.RowKit Go.Shelf
/-- blocks of bytes are left -/
def K5 (A B : World) : Prop := ∀ (j : Nat) (cs : Array Value) (fr : Nat × Nat), A.heap[j]? = some (.cells cs 5 fr) → B.heap[j]? = some (.cells cs 5 fr)
theorem Bt.k5 {A B : World} (h : K5 A B) {v : Value} {l : List UInt8} (hs : Bt A v l) : Bt B v l := by
  obtain ⟨⟨ao, cap, hv, h1, h2, h3, h4⟩, b, off, n, cap', rfl, cs, fr, hb⟩ := hs
  simp only [Value.slice.injEq] at hv
  obtain ⟨rfl, rfl, rfl⟩ := hv
  refine ⟨⟨_, _, rfl, h1, h2, h3, fun j u hu => ?_⟩, b, off, _, _, rfl, cs, fr, h _ _ _ hb⟩
  obtain ⟨ad, ha, hc⟩ := h4 j u hu
  refine ⟨ad, ha, ?_⟩
  obtain rfl := Option.some.inj ha
  rw [Addr.add_lit] at hc ⊢
  unfold World.cell? at hc ⊢
  rw [hb] at hc
  rw [h _ _ _ hb]
  exact hc
theorem K5.below {A B : World} (h : Below A.heap.size A B) : K5 A B := fun j _ _ hj => (h.block j (Array.getElem?_eq_some_iff.1 hj).1).trans hj
theorem K5.kc {A B : World} (h : Kc A B) : K5 A B := fun j _ _ hj => h.2 j _ _ _ hj
theorem K5.trans {A B C : World} (h : K5 A B) (h2 : K5 B C) : K5 A C := fun j _ _ hj => h2 j _ _ (h j _ _ hj)
theorem K5.set {A : World} {b : Nat} {T : TypeId} {v : Value} (h : NumAt A b T v) (hT : T ≠ 5) (u : Value) : K5 A (A.setCell ⟨b, 0, none⟩ u) := fun j cs fr hj => by
  rw [Below.heap_setCell _ _ _ _ (show j ≠ b from ?_)]
  · exact hj
  · rintro rfl
    unfold NumAt at h
    rw [h] at hj
    simp only [Option.some.injEq, Obj.cells.injEq] at hj
    exact hT hj.2.1
/-- a row of records: the call's own, its block at or beyond B -/
structure RI (B : Nat) (W : World) (ov : Value) (us : List Value) (rs : List (List UInt8)) : Prop where
  own : W.ownsRow B 22 1 ov rs.length us
  bts : ∀ i, i < rs.length → ∃ u, us[i]? = some u ∧ Bt W u (rs.getD i [])
theorem RI.nil (B : Nat) (W : World) : RI B W (.slice none 0 0) [] [] := ⟨World.ownsRow_nil _ _ _ _, fun i hi => by simp at hi⟩
theorem own_at2 {w w' : World} {B : Nat} {E : TypeId} {v : Value} {n : Nat} {xs : List Value} (h : w.ownsRow B E 1 v n xs) (hk : ∀ k cs, v.ownBlock = some k → w.heap[k]? = some (.cells cs E (0, 0)) → w'.heap[k]? = some (.cells cs E (0, 0))) : w'.ownsRow B E 1 v n xs := by
  refine ⟨h.1, ?_⟩
  rcases h.2 with h0 | ⟨g, cap, cur, rfl, hb, hg, h1⟩
  · exact .inl h0
  · exact .inr ⟨g, cap, cur, rfl, hb, hk g cur rfl hg, h1⟩
theorem RI.keep {B : Nat} {W W' : World} {ov : Value} {us : List Value} {rs : List (List UInt8)} (h : RI B W ov us rs) (hb : Below W.heap.size W W') : RI B W' ov us rs :=
  ⟨own_at2 h.own (fun k _ hk hc => (hb.block k (h.own.lt k hk).2).trans hc), fun i hi => by obtain ⟨u, h1, h2⟩ := h.bts i hi; exact ⟨u, h1, h2.k5 (K5.below hb)⟩⟩
theorem RI.kc {B : Nat} {W W' : World} {ov : Value} {us : List Value} {rs : List (List UInt8)} (h : RI B W ov us rs) (hb : Kc W W') : RI B W' ov us rs :=
  ⟨own_at2 h.own (fun k _ _ hc => hb.2 k _ _ _ hc), fun i hi => by obtain ⟨u, h1, h2⟩ := h.bts i hi; exact ⟨u, h1, hb.bt h2⟩⟩
theorem RI.set {B : Nat} {W : World} {ov : Value} {us : List Value} {rs : List (List UInt8)} (h : RI B W ov us rs) {b : Nat} {T : TypeId} {v : Value} (hN : NumAt W b T v) (hT : T ≠ 5) (hb : b < B) (u : Value) : RI B (W.setCell ⟨b, 0, none⟩ u) ov us rs :=
  ⟨own_at2 h.own (fun k _ hk hc => by rw [Below.heap_setCell _ _ _ _ (show k ≠ b from by have := (h.own.lt k hk).1; omega)]; exact hc), fun i hi => by obtain ⟨u', h1, h2⟩ := h.bts i hi; exact ⟨u', h1, h2.k5 (K5.set hN hT u)⟩⟩
theorem RI.sli {B : Nat} {W : World} {ov : Value} {us : List Value} {rs : List (List UInt8)} (h : RI B W ov us rs) : Sli W ov us ∧ Parts W us rs :=
  ⟨Sli.own h.own, by have := h.own.1; omega, fun i hi => by obtain ⟨u, h1, h2⟩ := h.bts i hi; exact ⟨u, h1, h2.1⟩⟩
/-- behind an append of one record -/
theorem RI.app {B : Nat} {W w' : World} {ov ov' u : Value} {us : List Value} {rs : List (List UInt8)} {r : List UInt8} (h : RI B W ov us rs) (hu : Bt W u r)
    (ho : w'.ownsRow B 22 1 ov' (rs.length + 1) (us ++ [u])) (hg : (W.alloc (.cells #[u] 22)).grownBy w' ov.ownBlock) :
    RI B w' ov' (us ++ [u]) (rs ++ [r]) ∧ (∀ j, j < W.heap.size → ov.ownBlock ≠ some j → w'.heap[j]? = W.heap[j]?) ∧ W.heap.size ≤ w'.heap.size := by
  have hz : (W.alloc (.cells #[u] 22)).heap.size = W.heap.size + 1 := by simp
  have ho2 : ∀ j, j < W.heap.size → ov.ownBlock ≠ some j → w'.heap[j]? = W.heap[j]? := fun j hj hne => by
    rw [hg.block j (by omega) (fun e => hne e.symm)]
    exact (Below.al (Below.refl W.heap.size W) (.cells #[u] 22)).block j hj
  have hk5 : K5 W w' := fun j cs fr hj => by
    rw [ho2 j (Array.getElem?_eq_some_iff.1 hj).1 ?_]
    · exact hj
    · intro hob
      rcases h.own.2 with h0 | ⟨g, cap, cur, rfl, hb, hgg, h1⟩
      · rw [h0.1] at hob; cases hob
      · obtain rfl : g = j := by simpa [Value.ownBlock] using hob
        rw [hgg] at hj
        simp at hj
  have hus : us.length = rs.length := by have := h.own.1; omega
  refine ⟨⟨by rw [List.length_append]; exact ho, fun i hi => ?_⟩, ho2, by have := hg.size; omega⟩
  rw [List.length_append, List.length_singleton] at hi
  by_cases hl : i < rs.length
  · obtain ⟨u', h1, h2⟩ := h.bts i hl
    refine ⟨u', by rw [List.getElem?_append_left (by omega)]; exact h1, ?_⟩
    have : (rs ++ [r]).getD i [] = rs.getD i [] := by simp [List.getD_eq_getElem?_getD, List.getElem?_append_left hl]
    rw [this]
    exact h2.k5 hk5
  · obtain rfl : i = rs.length := by omega
    refine ⟨u, by rw [← hus]; simp, ?_⟩
    have : (rs ++ [r]).getD rs.length [] = r := by simp [List.getD_eq_getElem?_getD]
    rw [this]
    exact hu.k5 hk5
theorem Try.info22 : (Try.prog.info? 22).map (fun i => (i.zero, i.size, i.bytes)) = some (some (.slice none 0 0), 1, 24) := by kernel_rfl
/-- APPEND of one record that lies in a block of its own -/
theorem wpList_appR (w : World) {ops : Array Oper} {rest : List Oper} {o : Oper} {a : Act} {Q : Exit → Act → World → Prop} (hgd : o.guard = none) (s x : Operand)
    (ho : o.op = .call { callee := .builtin .append, args := #[s, x], argTypes := #[47, 47] })
    (B : Nat) {v : Value} {us : List Value} {rs : List (List UInt8)} (h : RI B w v us rs) (u : Value) {r : List UInt8} (hu : Bt w u r) (hs : a.eval s = v) (hx : a.eval x = .slice (some ⟨w.heap.size, 0, none⟩) 1 1)
    (hsmall : rs.length + 1 ≤ 1000000) (hbase : B ≤ w.heap.size)
    (hK : ∀ v' w', RI B w' v' (us ++ [u]) (rs ++ [r]) → (∀ j, j < w.heap.size → v.ownBlock ≠ some j → w'.heap[j]? = w.heap[j]?) → w.heap.size ≤ w'.heap.size → Below B w w' → wpList Try.prog ops Q rest (a.put o.dst v') w') : wpList Try.prog ops Q (o :: rest) a (w.alloc (.cells #[u] 22)) := by
  obtain ⟨i, hi, hz, hszz, hbytes⟩ := info_parts Try.info22
  have h1 : u.oneCell' = true := by obtain ⟨_, b, off, n, cap, rfl, _⟩ := hu; rfl
  refine wpList_append_own (w.alloc (.cells #[u] 22)) hgd s x 47 ho B 22 i (.slice none 0 0) 1 24 Try.underlying47 hi hz hszz hbytes rfl (by decide) v rs.length us hs (h.own.alloc _) ⟨w.heap.size, 0, none⟩ 1 1 [u] hx rfl ?_ (by simpa using h1) (by unfold maxLen; omega) ?_ (by simp; omega) ?_
  · intro j u' hj
    rw [Addr.add_lit, World.cell?_alloc_at _ _ _ _ rfl]
    simpa using hj
  · omega
  · intro v' w' h2 h3 _
    obtain ⟨k1, k2, k3⟩ := h.app hu h2 h3
    exact hK v' w' k1 k2 k3 (((Below.refl B w).alloc hbase (.cells #[u] 22)).trans ((Below.refl _ _).grown h3 (by simp; omega) (fun k hk => (h.own.lt k hk).1)))
theorem wpListIn_appR {F : Fence} {m : Nat} (w : World) {ops : Array Oper} {rest : List Oper} {o : Oper} {a : Act} {Q : Exit → Act → World → Prop} (hgd : o.guard = none) (s x : Operand)
    (ho : o.op = .call { callee := .builtin .append, args := #[s, x], argTypes := #[47, 47] })
    (B : Nat) {v : Value} {us : List Value} {rs : List (List UInt8)} (h : RI B w v us rs) (u : Value) {r : List UInt8} (hu : Bt w u r) (hs : a.eval s = v) (hx : a.eval x = .slice (some ⟨w.heap.size, 0, none⟩) 1 1)
    (hsmall : rs.length + 1 ≤ 1000000) (hbase : B ≤ w.heap.size)
    (hK : ∀ v' w', RI B w' v' (us ++ [u]) (rs ++ [r]) → (∀ j, j < w.heap.size → v.ownBlock ≠ some j → w'.heap[j]? = w.heap[j]?) → w.heap.size ≤ w'.heap.size → Below B w w' → wpListIn F m Try.prog ops Q rest (a.put o.dst v') w') : wpListIn F m Try.prog ops Q (o :: rest) a (w.alloc (.cells #[u] 22)) := by
  obtain ⟨i, hi, hz, hszz, hbytes⟩ := info_parts Try.info22
  have h1 : u.oneCell' = true := by obtain ⟨_, b, off, n, cap, rfl, _⟩ := hu; rfl
  refine wpListIn_append_own (w.alloc (.cells #[u] 22)) hgd s x 47 ho B 22 i (.slice none 0 0) 1 24 Try.underlying47 hi hz hszz hbytes rfl (by decide) v rs.length us hs (h.own.alloc _) ⟨w.heap.size, 0, none⟩ 1 1 [u] hx rfl ?_ (by simpa using h1) (by unfold maxLen; omega) ?_ (by simp; omega) ?_
  · intro j u' hj
    rw [Addr.add_lit, World.cell?_alloc_at _ _ _ _ rfl]
    simpa using hj
  · omega
  · intro v' w' h2 h3 _
    obtain ⟨k1, k2, k3⟩ := h.app hu h2 h3
    exact hK v' w' k1 k2 k3 (((Below.refl B w).alloc hbase (.cells #[u] 22)).trans ((Below.refl _ _).grown h3 (by simp; omega) (fun k hk => (h.own.lt k hk).1)))
end Go.Proofs.Ytlcnjinabfbglaa
