/- Messages that came in. -/
import Derived.Test.YtlcnjinabfbglaaSr2
import Derived.Test.YtlcnjinabfbglaaRows
import Derived.WalkKit
import Derived.ProofKit
import Derived.OpenShut
import Derived.Test.YtlcnjinabfbglaaRm
import Derived.ChangeOld
import Derived.ChangeSame
import Derived.Below
import Derived.Deep.Fields
import Derived.Deep.Slices
namespace Go.Proofs.Ytlcnjinabfbglaa
open Go.ChangeShapes Go.WideShapes Go.ChangeAt Go.RowKit
theorem open_bytes {H : Type} {enc : TypeId × Value → H} {w : World} {r : Reach} {b0 : Nat} {v : Value} {d : DataW H} {p : List MemPlace} (hv : Value.okWide Try.prog w r b0 22 v) (h : DataW.Trod enc Try.prog w 0 (fun _ => true) true 22 v d p) :
    ∃ l : List UInt8, Bts w v l := by
  obtain ⟨a0, len0, cap0, rfl⟩ := okWide_slice Try.underlying22 hv
  obtain ⟨fuel, hf⟩ := h
  rcases open_ints Try.underlying22 Try.underlying5 (by kernel_rfl) hf with ⟨hcs, _⟩ | ⟨x, l, c, zs, hcs, _, hl, hm, hz, _, hcell, hwz⟩
  · simp [Value.cells] at hcs
    obtain ⟨rfl, rfl, rfl⟩ := hcs
    exact ⟨[], Sli.nil w⟩
  · simp [Value.cells] at hcs
    obtain ⟨rfl, rfl, rfl⟩ := hcs
    obtain ⟨l, -, hB⟩ := bts_of_ints (.inr ⟨_, rfl, hl, hm, by simpa using hz, hcell, hwz⟩)
    exact ⟨l, hB⟩
end Go.Proofs.Ytlcnjinabfbglaa
namespace Go.Proofs.Ytlcnjinabfbglaa
open Go.ChangeShapes Go.WideShapes Go.ChangeAt Go.RowKit Go.Deep
theorem wf_u64 {n : Int} (h : (Lit.int .u64 n).wf = true) : ∃ k : Nat, n = (k : Int) ∧ Rp.N64 k := by
  have := bounds_u64 h
  exact ⟨n.toNat, by omega, by unfold Rp.N64; omega⟩
theorem lie_of {α : Type} {cells : α → List Value} {sz : Nat} (hs : ∀ a, (cells a).length = sz) {good : α → Prop} {w : World} {a : Addr} : ∀ (len : Nat)
    (_ : ∀ i, i < len → ∃ x : α, good x ∧ ∀ j u, (cells x)[j]? = some u → w.cell? (a.add (i * sz + j)) = some u), ∃ l : List α, l.length = len ∧ Lie w (some a) (l.flatMap cells) ∧ ∀ x ∈ l, good x
  | 0, _ => ⟨[], rfl, (by intro j u h; simp at h), by simp⟩
  | n + 1, h => by
    obtain ⟨l, hl, hL, hg⟩ := lie_of hs n (fun i hi => h i (by omega))
    obtain ⟨x, hx, hc⟩ := h n (by omega)
    refine ⟨l ++ [x], by simp [hl], ?_, ?_⟩
    · intro j u hj
      have hfl := flat_len cells sz hs l
      rw [List.flatMap_append, List.getElem?_append] at hj
      by_cases hlt : j < (l.flatMap cells).length
      · rw [if_pos hlt] at hj
        exact hL j u hj
      · rw [if_neg hlt, hfl, hl] at hj
        refine ⟨a, rfl, ?_⟩
        have := hc (j - n * sz) u (by simpa using hj)
        rw [hfl, hl] at hlt
        rwa [show n * sz + (j - n * sz) = j by omega] at this
    · intro y hy
      rcases List.mem_append.1 hy with hy | hy
      · exact hg y hy
      · rw [List.mem_singleton.1 hy]; exact hx
theorem open_slots {H : Type} {enc : TypeId × Value → H} {P : Program} {w : World} {base : Nat} {held : Bool} {t e : TypeId} {fs : Array Field} {cs : List Value} {d : DataW H} {p : List MemPlace}
    (ht : P.underlying t = some (.slice e)) (he : P.underlying e = some (.struct fs)) (hone : Deep.oneCellFields P fs = true) (hC : P.cellsOf e = fs.size) (h : ∃ fuel, DataW.trod enc P w base (fun _ => true) held fuel t cs = some (d, p)) :
    cs = [.slice none 0 0] ∨ ∃ (a : Addr) (len cap : Nat), cs = [.slice (some a) len cap] ∧ len ≤ cap ∧ cap ≤ maxLen ∧ ∀ i, i < len → ∀ (j : Nat) (f : Field), fs[j]? = some f → ∃ (u : Value) (y : DataW H × List MemPlace) (n : Nat), w.cell? (a.add (i * fs.size + j)) = some u ∧ DataW.trod enc P w base (fun _ => true) held n f.type [u] = some y := by
  obtain ⟨fuel, h⟩ := h
  rcases open_slice ht h with ⟨h0, -⟩ | ⟨a, len, cap, m, n, D, Pl, hcs, hb, hl, hm, hmm, hx, hi⟩
  · exact .inl h0
  · refine .inr ⟨a, len, cap, hcs, hl, hm, fun i him => ?_⟩
    have hlm : len ≤ m := by rw [hmm]; simp; omega
    obtain ⟨cs', hc, ht'⟩ := hi i (by omega)
    rw [hC] at hc
    obtain ⟨ys, n', hn', hy, hlen, hyl, hf⟩ := DataW.trod_struct he ht'
    obtain ⟨_, hcl, hat⟩ := World.cells?_some hc
    intro j f hj
    obtain ⟨ho, hk⟩ := Deep.hone_of hone j f hj
    have hjl : j < fs.size := (Array.getElem?_eq_some_iff.1 hj).1
    have h1 := hf j f hj
    rw [ho, hk, List.drop_eq_getElem_cons (by omega)] at h1
    have hys : ys[j]? = some (ys[j]'(by omega)) := List.getElem?_eq_getElem (by omega)
    rw [hys] at h1
    refine ⟨cs'[j]'(by omega), _, _, ?_, h1⟩
    rw [← Go.Deep.add_add, hat j hjl]
    exact List.getElem?_eq_getElem (by omega)
theorem open_bytes1 {H : Type} {enc : TypeId × Value → H} {w : World} {n : Nat} {u : Value} {y : DataW H × List MemPlace} (h : DataW.trod enc Try.prog w 0 (fun _ => true) true n 22 [u] = some y) : ∃ l : List UInt8, Bts w u l := by
  rcases open_ints Try.underlying22 Try.underlying5 (by kernel_rfl) h with ⟨hcs, _⟩ | ⟨x, l, c, zs, hcs, _, hl, hm, hz, _, hcell, hwz⟩
  · obtain rfl : u = .slice none 0 0 := by simpa using hcs
    exact ⟨[], Sli.nil w⟩
  · obtain rfl : u = .slice (some x) l c := by simpa using hcs
    obtain ⟨bl, -, hB⟩ := bts_of_ints (.inr ⟨_, rfl, hl, hm, by simpa using hz, hcell, hwz⟩)
    exact ⟨bl, hB⟩
theorem nums_of (zs : List Int) (h : ∀ n ∈ zs, (Lit.int .u64 n).wf = true) : ∃ ns : List Nat, ns.map u64 = zs.map (Value.int .u64) ∧ ∀ n ∈ ns, Rp.N64 n := by
  induction zs with
  | nil => exact ⟨[], rfl, by simp⟩
  | cons z zs ih =>
    obtain ⟨ns, h1, h2⟩ := ih (fun n hn => h n (List.mem_cons_of_mem _ hn))
    obtain ⟨k, rfl, hk⟩ := wf_u64 (h z (List.mem_cons_self ..))
    refine ⟨k :: ns, by simp [h1], ?_⟩
    intro n hn
    rcases List.mem_cons.1 hn with rfl | hn
    · exact hk
    · exact h2 n hn
theorem open_nums1 {H : Type} {enc : TypeId × Value → H} {w : World} {n : Nat} {u : Value} {y : DataW H × List MemPlace} (h : DataW.trod enc Try.prog w 0 (fun _ => true) true n 58 [u] = some y) : ∃ l : List Nat, Nums w u l := by
  rcases open_ints Try.underlying58 Try.underlying30 (by kernel_rfl) h with ⟨hcs, _⟩ | ⟨x, len, cap, zs, hcs, _, hl, hm, hz, _, hcell, hwz⟩
  · obtain rfl : u = .slice none 0 0 := by simpa using hcs
    exact ⟨[], Nums.nil w⟩
  · obtain rfl : u = .slice (some x) len cap := by simpa using hcs
    simp at hz
    have hlen : (zs.take len).length = len := by simp; omega
    obtain ⟨ns, h1, h2⟩ := nums_of (zs.take len) (fun n hn => hwz n (List.mem_of_mem_take hn))
    have hnl : ns.length = len := by rw [← hlen, ← List.length_map (f := Value.int .u64), ← h1, List.length_map]
    refine ⟨ns, ⟨some x, cap, by rw [List.length_map, hnl], by rw [List.length_map, hnl]; exact hl, hm, (fun h => by cases h), fun j v hv => ⟨x, rfl, ?_⟩⟩, h2⟩
    have hj := (List.getElem?_eq_some_iff.1 hv).1
    rw [List.length_map, hnl] at hj
    rw [h1] at hv
    rw [hcell j (by omega), ← hv, List.getElem?_map, List.getElem?_take, if_pos hj]
    simp [show j < zs.length by omega]
theorem open_ents1 {H : Type} {enc : TypeId × Value → H} {w : World} {n : Nat} {u : Value} {d : DataW H} {p : List MemPlace} (h : DataW.trod enc Try.prog w 0 (fun _ => true) true n 57 [u] = some (d, p)) : ∃ xs : List EV, Ents w u xs := by
  rcases open_slots Try.underlying57 Try.underlying79 (by kernel_rfl) (by kernel_rfl) ⟨n, h⟩ with h0 | ⟨a, len, cap, h0, hl, hm, hi⟩
  · obtain rfl : u = .slice none 0 0 := by simpa using h0
    exact ⟨[], Ents.nil w⟩
  · obtain rfl : u = .slice (some a) len cap := by simpa using h0
    have hx : ∀ i, i < len → ∃ x : EV, EvOk w x ∧ ∀ j u, (evC x)[j]? = some u → w.cell? (a.add (i * 3 + j)) = some u := by
      intro i hil
      obtain ⟨u0, y0, m0, e0, t0⟩ := hi i hil 0 _ rfl
      obtain ⟨n0, q0, -, w0⟩ := DataW.trod_int Try.underlying30 t0
      obtain rfl : u0 = .int .u64 n0 := by simpa using q0
      obtain ⟨k0, rfl, hk0⟩ := wf_u64 w0
      obtain ⟨u1, y1, m1, e1, t1⟩ := hi i hil 1 _ rfl
      obtain ⟨n1, q1, -, w1⟩ := DataW.trod_int Try.underlying30 t1
      obtain rfl : u1 = .int .u64 n1 := by simpa using q1
      obtain ⟨k1, rfl, hk1⟩ := wf_u64 w1
      obtain ⟨u2, y2, m2, e2, t2⟩ := hi i hil 2 _ rfl
      obtain ⟨l, hB⟩ := open_bytes1 t2
      refine ⟨⟨k0, k1, u2, l⟩, ⟨hB, hk0, hk1⟩, fun j u hj => ?_⟩
      match j, hj with
      | 0, hj => obtain rfl := Option.some.inj hj; exact e0
      | 1, hj => obtain rfl := Option.some.inj hj; exact e1
      | 2, hj => obtain rfl := Option.some.inj hj; exact e2
    obtain ⟨l, hll, hL, hg⟩ := lie_of evC_len len hx
    subst hll
    exact ⟨l, ⟨_, _, rfl, hl, hm, (fun h => by cases h), hL⟩, hg⟩
theorem open_msg {H : Type} {enc : TypeId × Value → H} {w : World} {r : Reach} {b0 : Nat} {v : Value} {d : DataW H} {p : List MemPlace} (hv : Value.okWide Try.prog w r b0 62 v) (h : DataW.Trod enc Try.prog w 0 (fun _ => true) true 62 v d p) :
    ∃ x : MV, v = msgV x ∧ MvOk w x := by
  obtain ⟨⟨cs⟩, rfl, hsz⟩ := okWide_struct Try.underlying62 hv
  have hl : cs.length = 14 := hsz.trans (by kernel_rfl)
  obtain ⟨fuel, hf⟩ := h
  obtain ⟨xs, n, -, -, -, hlen, hg⟩ := DataW.trod_struct Try.underlying62 hf
  match cs, hl with
  | [c0, c1, c2, c3, c4, c5, c6, c7, c8, c9, c10, c11, c12, c13], _ =>
    match xs, hlen with
    | [y0, y1, y2, y3, y4, y5, y6, y7, y8, y9, y10, y11], _ =>
      have t0 : DataW.trod enc Try.prog w 0 (fun _ => true) true n 3 [c0] = some y0 := by
        exact ((congrArg (fun k => DataW.trod enc Try.prog w 0 (fun _ => true) true n 3 (List.take k (List.drop 0 [c0, c1, c2, c3, c4, c5, c6, c7, c8, c9, c10, c11, c12, c13]))) (show Try.prog.cellsOf 3 = 1 from by kernel_rfl)).symm).trans (hg 0 _ rfl)
      have t1 : DataW.trod enc Try.prog w 0 (fun _ => true) true n 30 [c1] = some y1 := by
        exact ((congrArg (fun k => DataW.trod enc Try.prog w 0 (fun _ => true) true n 30 (List.take k (List.drop 1 [c0, c1, c2, c3, c4, c5, c6, c7, c8, c9, c10, c11, c12, c13]))) (show Try.prog.cellsOf 30 = 1 from by kernel_rfl)).symm).trans (hg 1 _ rfl)
      have t2 : DataW.trod enc Try.prog w 0 (fun _ => true) true n 30 [c2] = some y2 := by
        exact ((congrArg (fun k => DataW.trod enc Try.prog w 0 (fun _ => true) true n 30 (List.take k (List.drop 2 [c0, c1, c2, c3, c4, c5, c6, c7, c8, c9, c10, c11, c12, c13]))) (show Try.prog.cellsOf 30 = 1 from by kernel_rfl)).symm).trans (hg 2 _ rfl)
      have t3 : DataW.trod enc Try.prog w 0 (fun _ => true) true n 30 [c3] = some y3 := by
        exact ((congrArg (fun k => DataW.trod enc Try.prog w 0 (fun _ => true) true n 30 (List.take k (List.drop 3 [c0, c1, c2, c3, c4, c5, c6, c7, c8, c9, c10, c11, c12, c13]))) (show Try.prog.cellsOf 30 = 1 from by kernel_rfl)).symm).trans (hg 3 _ rfl)
      have t4 : DataW.trod enc Try.prog w 0 (fun _ => true) true n 4 [c4] = some y4 := by
        exact ((congrArg (fun k => DataW.trod enc Try.prog w 0 (fun _ => true) true n 4 (List.take k (List.drop 4 [c0, c1, c2, c3, c4, c5, c6, c7, c8, c9, c10, c11, c12, c13]))) (show Try.prog.cellsOf 4 = 1 from by kernel_rfl)).symm).trans (hg 4 _ rfl)
      have t5 : DataW.trod enc Try.prog w 0 (fun _ => true) true n 4 [c5] = some y5 := by
        exact ((congrArg (fun k => DataW.trod enc Try.prog w 0 (fun _ => true) true n 4 (List.take k (List.drop 5 [c0, c1, c2, c3, c4, c5, c6, c7, c8, c9, c10, c11, c12, c13]))) (show Try.prog.cellsOf 4 = 1 from by kernel_rfl)).symm).trans (hg 5 _ rfl)
      have t6 : DataW.trod enc Try.prog w 0 (fun _ => true) true n 30 [c6] = some y6 := by
        exact ((congrArg (fun k => DataW.trod enc Try.prog w 0 (fun _ => true) true n 30 (List.take k (List.drop 6 [c0, c1, c2, c3, c4, c5, c6, c7, c8, c9, c10, c11, c12, c13]))) (show Try.prog.cellsOf 30 = 1 from by kernel_rfl)).symm).trans (hg 6 _ rfl)
      have t7 : DataW.trod enc Try.prog w 0 (fun _ => true) true n 30 [c7] = some y7 := by
        exact ((congrArg (fun k => DataW.trod enc Try.prog w 0 (fun _ => true) true n 30 (List.take k (List.drop 7 [c0, c1, c2, c3, c4, c5, c6, c7, c8, c9, c10, c11, c12, c13]))) (show Try.prog.cellsOf 30 = 1 from by kernel_rfl)).symm).trans (hg 7 _ rfl)
      have t8 : DataW.trod enc Try.prog w 0 (fun _ => true) true n 30 [c8] = some y8 := by
        exact ((congrArg (fun k => DataW.trod enc Try.prog w 0 (fun _ => true) true n 30 (List.take k (List.drop 8 [c0, c1, c2, c3, c4, c5, c6, c7, c8, c9, c10, c11, c12, c13]))) (show Try.prog.cellsOf 30 = 1 from by kernel_rfl)).symm).trans (hg 8 _ rfl)
      have t9 : DataW.trod enc Try.prog w 0 (fun _ => true) true n 57 [c9] = some y9 := by
        exact ((congrArg (fun k => DataW.trod enc Try.prog w 0 (fun _ => true) true n 57 (List.take k (List.drop 9 [c0, c1, c2, c3, c4, c5, c6, c7, c8, c9, c10, c11, c12, c13]))) (show Try.prog.cellsOf 57 = 1 from by kernel_rfl)).symm).trans (hg 9 _ rfl)
      have t10 : DataW.trod enc Try.prog w 0 (fun _ => true) true n 58 [c10] = some y10 := by
        exact ((congrArg (fun k => DataW.trod enc Try.prog w 0 (fun _ => true) true n 58 (List.take k (List.drop 10 [c0, c1, c2, c3, c4, c5, c6, c7, c8, c9, c10, c11, c12, c13]))) (show Try.prog.cellsOf 58 = 1 from by kernel_rfl)).symm).trans (hg 10 _ rfl)
      have t11 : DataW.trod enc Try.prog w 0 (fun _ => true) true n 60 [c11, c12, c13] = some y11 := by
        exact ((congrArg (fun k => DataW.trod enc Try.prog w 0 (fun _ => true) true n 60 (List.take k (List.drop 11 [c0, c1, c2, c3, c4, c5, c6, c7, c8, c9, c10, c11, c12, c13]))) (show Try.prog.cellsOf 60 = 3 from by kernel_rfl)).symm).trans (hg 11 _ rfl)
      obtain ⟨n0, e0, -, w0⟩ := DataW.trod_int Try.underlying3 t0
      obtain rfl : c0 = .int .i64 n0 := by simpa using e0
      obtain ⟨n1, e1, -, w1⟩ := DataW.trod_int Try.underlying30 t1
      obtain rfl : c1 = .int .u64 n1 := by simpa using e1
      obtain ⟨k1, rfl, hk1⟩ := wf_u64 w1
      obtain ⟨n2, e2, -, w2⟩ := DataW.trod_int Try.underlying30 t2
      obtain rfl : c2 = .int .u64 n2 := by simpa using e2
      obtain ⟨k2, rfl, hk2⟩ := wf_u64 w2
      obtain ⟨n3, e3, -, w3⟩ := DataW.trod_int Try.underlying30 t3
      obtain rfl : c3 = .int .u64 n3 := by simpa using e3
      obtain ⟨k3, rfl, hk3⟩ := wf_u64 w3
      obtain ⟨n6, e6, -, w6⟩ := DataW.trod_int Try.underlying30 t6
      obtain rfl : c6 = .int .u64 n6 := by simpa using e6
      obtain ⟨k6, rfl, hk6⟩ := wf_u64 w6
      obtain ⟨n7, e7, -, w7⟩ := DataW.trod_int Try.underlying30 t7
      obtain rfl : c7 = .int .u64 n7 := by simpa using e7
      obtain ⟨k7, rfl, hk7⟩ := wf_u64 w7
      obtain ⟨n8, e8, -, w8⟩ := DataW.trod_int Try.underlying30 t8
      obtain rfl : c8 = .int .u64 n8 := by simpa using e8
      obtain ⟨k8, rfl, hk8⟩ := wf_u64 w8
      obtain ⟨b4, e4, -⟩ := DataW.trod_bool Try.underlying4 t4
      obtain rfl : c4 = .bool b4 := by simpa using e4
      obtain ⟨b5, e5, -⟩ := DataW.trod_bool Try.underlying4 t5
      obtain rfl : c5 = .bool b5 := by simpa using e5
      obtain ⟨xs9, hx9⟩ := open_ents1 t9
      obtain ⟨ns10, hn10⟩ := open_nums1 t10
      obtain ⟨zs, m, -, -, -, hzl, hz⟩ := DataW.trod_struct Try.underlying60 t11
      match zs, hzl with
      | [z0, z1, z2], _ =>
        have u0 : DataW.trod enc Try.prog w 0 (fun _ => true) true m 30 [c11] = some z0 := by
          exact ((congrArg (fun k => DataW.trod enc Try.prog w 0 (fun _ => true) true m 30 (List.take k (List.drop 0 [c11, c12, c13]))) (show Try.prog.cellsOf 30 = 1 from by kernel_rfl)).symm).trans (hz 0 _ rfl)
        have u1 : DataW.trod enc Try.prog w 0 (fun _ => true) true m 30 [c12] = some z1 := by
          exact ((congrArg (fun k => DataW.trod enc Try.prog w 0 (fun _ => true) true m 30 (List.take k (List.drop 1 [c11, c12, c13]))) (show Try.prog.cellsOf 30 = 1 from by kernel_rfl)).symm).trans (hz 1 _ rfl)
        have u2 : DataW.trod enc Try.prog w 0 (fun _ => true) true m 22 [c13] = some z2 := by
          exact ((congrArg (fun k => DataW.trod enc Try.prog w 0 (fun _ => true) true m 22 (List.take k (List.drop 2 [c11, c12, c13]))) (show Try.prog.cellsOf 22 = 1 from by kernel_rfl)).symm).trans (hz 2 _ rfl)
        obtain ⟨n11, e11, -, w11⟩ := DataW.trod_int Try.underlying30 u0
        obtain rfl : c11 = .int .u64 n11 := by simpa using e11
        obtain ⟨k11, rfl, hk11⟩ := wf_u64 w11
        obtain ⟨n12, e12, -, w12⟩ := DataW.trod_int Try.underlying30 u1
        obtain rfl : c12 = .int .u64 n12 := by simpa using e12
        obtain ⟨k12, rfl, hk12⟩ := wf_u64 w12
        obtain ⟨l, hB⟩ := open_bytes1 u2
        have hb0 := bounds_i64 w0
        exact ⟨⟨⟨n0, k1, k2, k3, b4, b5, k6, k7, k8, xs9.map EV.ent, ns10, k11, k12, l⟩, c9, c10, c13, xs9⟩, rfl, hx9, hn10, hB, rfl, ⟨hk1, hk2, hk3, hk6, hk7, hk8, hk11, hk12, fun e he => by obtain ⟨x, hx, rfl⟩ := List.mem_map.1 he; exact (hx9.2 x hx).2, hn10.2⟩, hb0.1, hb0.2⟩
end Go.Proofs.Ytlcnjinabfbglaa
