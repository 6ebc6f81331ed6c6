/- A script that came in, opened. -/
import Derived.Test.YtaepkmjlkenenaaF23
import Derived.SizedLaws
namespace Go.Proofs.Ytaepkmjlkenenaa
open Go.ChangeShapes Go.WideShapes Go.RowKit Go.Deep

theorem open_fires1 {H : Type} {enc : TypeId × Value → H} {w : World} {c : Value} {d : DataW H} {p : List MemPlace} (h : ∃ n, DataW.trod enc Try.prog w 0 (fun _ => true) true n 35 [c] = some (d, p)) (hz : ∀ n ∈ d.weights Try.prog 35, n ≤ reachBytes) :
    ∃ l : List Fi.Fire, Fires w c l ∧ (∀ f ∈ l, Fi.I64 f.at') ∧ (l.length : Int) ≤ 140737488355328 := by
  obtain ⟨n, hn⟩ := h
  have hlen : ∀ a len cap, c = .slice (some a) len cap → (len : Int) ≤ 140737488355328 := by
    rintro a len cap rfl
    rcases open_slice Try.underlying35 hn with ⟨h0, -⟩ | ⟨a', len', cap', m, n', D, Pl, hcs, hb, hl, hm, hmm, hx, hi⟩
    · simp at h0
    · obtain ⟨rfl, rfl, rfl⟩ : a = a' ∧ len = len' ∧ cap = cap' := by simpa using hcs
      obtain ⟨rfl, -⟩ := Prod.mk.inj hx
      have h1 := hz _ (by rw [DataW.weights, Try.underlying35]; exact List.mem_cons_self ..)
      have h2 : Try.prog.bytesOf 58 = 56 := by kernel_rfl
      rw [h2] at h1
      simp [reachBytes] at h1
      omega
  rcases open_slots Try.underlying35 Try.underlying58 (by kernel_rfl) (by kernel_rfl) ⟨n, hn⟩ with h0 | ⟨a, len, cap, h0, hl, hm, hi⟩
  · obtain rfl : c = .slice none 0 0 := by simpa using h0
    exact ⟨[], Row.nil _ _, by simp, by simp⟩
  · obtain rfl : c = .slice (some a) len cap := by simpa using h0
    have hle := hlen _ _ _ rfl
    have hx : ∀ i, i < len → ∃ x : Fi.Fire, Fi.I64 x.at' ∧ ∀ j u, (fireC x)[j]? = some u → w.cell? (a.add (i * 7 + j)) = some u := by
      intro i hil
      obtain ⟨u0, y0, m0, e0, t0⟩ := hi i hil 0 _ rfl
      obtain ⟨n0', q0, -, w0⟩ := DataW.trod_int Try.underlying32 t0
      simp at q0
      subst q0
      obtain ⟨u1, y1, m1, e1, t1⟩ := hi i hil 1 _ rfl
      obtain ⟨n1', q1, -, w1⟩ := DataW.trod_int Try.underlying2 t1
      simp at q1
      subst q1
      obtain ⟨u2, y2, m2, e2, t2⟩ := hi i hil 2 _ rfl
      obtain ⟨n2', q2, -, w2⟩ := DataW.trod_int Try.underlying3 t2
      simp at q2
      subst q2
      obtain ⟨u3, y3, m3, e3, t3⟩ := hi i hil 3 _ rfl
      obtain ⟨n3', q3, -, w3⟩ := DataW.trod_int Try.underlying3 t3
      simp at q3
      subst q3
      obtain ⟨u4, y4, m4, e4, t4⟩ := hi i hil 4 _ rfl
      obtain ⟨n4', q4, -, w4⟩ := DataW.trod_int Try.underlying32 t4
      simp at q4
      subst q4
      obtain ⟨u5, y5, m5, e5, t5⟩ := hi i hil 5 _ rfl
      obtain ⟨n5', q5, -, w5⟩ := DataW.trod_int Try.underlying32 t5
      simp at q5
      subst q5
      obtain ⟨u6, y6, m6, e6, t6⟩ := hi i hil 6 _ rfl
      obtain ⟨n6', q6, -, w6⟩ := DataW.trod_int Try.underlying2 t6
      simp at q6
      subst q6
      refine ⟨⟨n0', n1', n2', n3', n4', n5', n6'⟩, Fi.i64_wf w1, fun j u hj => ?_⟩
      match j, hj with
      | 0, hj => obtain rfl := Option.some.inj hj; exact e0
      | 1, hj => obtain rfl := Option.some.inj hj; exact e1
      | 2, hj => obtain rfl := Option.some.inj hj; exact e2
      | 3, hj => obtain rfl := Option.some.inj hj; exact e3
      | 4, hj => obtain rfl := Option.some.inj hj; exact e4
      | 5, hj => obtain rfl := Option.some.inj hj; exact e5
      | 6, hj => obtain rfl := Option.some.inj hj; exact e6
    obtain ⟨l, hll, hL, hg⟩ := lie_of fireC_len len hx
    subst hll
    exact ⟨l, ⟨_, _, rfl, hl, hm, (fun h => by cases h), hL⟩, hg, hle⟩
theorem weightsAll_mem {H : Type} {P : Program} {e : TypeId} {n : Nat} {d : DataW H} (hn : n ∈ d.weights P e) : ∀ {l : List (DataW H)}, d ∈ l → n ∈ DataW.weightsAll P e l
  | x :: l, h => by
    rw [DataW.weightsAll, List.mem_append]
    rcases List.mem_cons.1 h with rfl | h
    · exact .inl hn
    · exact .inr (weightsAll_mem hn h)
set_option maxRecDepth 100000 in
theorem open_steps {H : Type} {enc : TypeId × Value → H} {w : World} {r : Reach} {b0 : Nat} {v : Value} {d : DataW H} {p : List MemPlace} (hv : Value.okWide Try.prog w r b0 41 v) (h : DataW.Trod enc Try.prog w 0 (fun _ => true) true 41 v d p) (hz : ∀ n ∈ d.weights Try.prog 41, n ≤ reachBytes) :
    ∃ l : List Stp, Steps w v l := by
  obtain ⟨a0, n0, c0, rfl⟩ := okWide_slice Try.underlying41 hv
  obtain ⟨n, hn⟩ := h
  have hC : Try.prog.cellsOf 48 = 6 := by kernel_rfl
  have z_4 : Try.prog.cellsOf 4 = 1 := by kernel_rfl
  have z_34 : Try.prog.cellsOf 34 = 3 := by kernel_rfl
  have z_35 : Try.prog.cellsOf 35 = 1 := by kernel_rfl
  have z_2 : Try.prog.cellsOf 2 = 1 := by kernel_rfl
  have z_5 : Try.prog.cellsOf 5 = 1 := by kernel_rfl
  have z_32 : Try.prog.cellsOf 32 = 1 := by kernel_rfl
  rcases open_slice Try.underlying41 hn with ⟨h0, -⟩ | ⟨a, len, cap, m, n', D, Pl, hcs, hb, hl, hm, hmm, hx, hi⟩
  · obtain ⟨rfl, rfl, rfl⟩ : a0 = none ∧ n0 = 0 ∧ c0 = 0 := by simpa [Value.cells] using h0
    exact ⟨[], Row.nil _ _, by simp⟩
  · obtain ⟨rfl, rfl, rfl⟩ : a0 = some a ∧ n0 = len ∧ c0 = cap := by simpa [Value.cells] using hcs
    obtain ⟨rfl, -⟩ := Prod.mk.inj hx
    have hlm : n0 ≤ m := by rw [hmm]; simp; omega
    have hq : ∀ i, i < n0 → ∃ x : Stp, StpOk w x ∧ ∀ j u, (stpC x)[j]? = some u → w.cell? (a.add (i * 6 + j)) = some u := by
      intro i hil
      obtain ⟨cs', hc, ht'⟩ := hi i (by omega)
      rw [hC] at hc
      have hDz : ∀ n ∈ (D i).weights Try.prog 48, n ≤ reachBytes := fun n hn => hz n (by
        rw [DataW.weights, Try.underlying41]
        refine List.mem_cons_of_mem _ (List.mem_append_left _ (weightsAll_mem hn ?_))
        exact List.mem_map.2 ⟨i, List.mem_range.2 hil, rfl⟩)
      obtain ⟨ys, n2, -, hy, hlen, hyl, hf⟩ := DataW.trod_struct Try.underlying48 ht'
      obtain ⟨_, hcl, hat⟩ := World.cells?_some hc
      obtain ⟨hDi, -⟩ := Prod.mk.inj hy
      rw [hDi, DataW.weights, Try.underlying48] at hDz
      match cs', hcl with
      | [c0, c1, c2, c3, c4, c5], _ =>
        match ys, hyl with
        | [y0, y1, y2, y3], _ =>
          have f0 : DataW.trod enc Try.prog w 0 (fun _ => true) true n2 4 [c0] = some y0 := by
            have this : DataW.trod enc Try.prog w 0 (fun _ => true) true n2 4 (([c0, c1, c2, c3, c4, c5].drop 0).take (Try.prog.cellsOf 4)) = some y0 := hf 0 _ rfl
            rw [z_4] at this; exact this
          have f1 : DataW.trod enc Try.prog w 0 (fun _ => true) true n2 34 [c1, c2, c3] = some y1 := by
            have this : DataW.trod enc Try.prog w 0 (fun _ => true) true n2 34 (([c0, c1, c2, c3, c4, c5].drop 1).take (Try.prog.cellsOf 34)) = some y1 := hf 1 _ rfl
            rw [z_34] at this; exact this
          have f2 : DataW.trod enc Try.prog w 0 (fun _ => true) true n2 35 [c4] = some y2 := by
            have this : DataW.trod enc Try.prog w 0 (fun _ => true) true n2 35 (([c0, c1, c2, c3, c4, c5].drop 4).take (Try.prog.cellsOf 35)) = some y2 := hf 2 _ rfl
            rw [z_35] at this; exact this
          have f3 : DataW.trod enc Try.prog w 0 (fun _ => true) true n2 2 [c5] = some y3 := by
            have this : DataW.trod enc Try.prog w 0 (fun _ => true) true n2 2 (([c0, c1, c2, c3, c4, c5].drop 5).take (Try.prog.cellsOf 2)) = some y3 := hf 3 _ rfl
            rw [z_2] at this; exact this
          obtain ⟨l, hl1, hl2, hl3⟩ := open_fires1 ⟨n2, f2⟩ (fun n hn => hDz n (DataW.weights_mem_each (j := 2) rfl rfl n hn))
          obtain ⟨b, hb0, -⟩ := DataW.trod_bool Try.underlying4 f0
          obtain ⟨n5, q5, -, w5⟩ := DataW.trod_int Try.underlying2 f3
          obtain ⟨zs, n3, -, -, -, hzl, hg⟩ := DataW.trod_struct Try.underlying34 f1
          match zs, hzl with
          | [z0, z1, z2], _ =>
            have k0 : DataW.trod enc Try.prog w 0 (fun _ => true) true n3 5 [c1] = some z0 := by
              have this : DataW.trod enc Try.prog w 0 (fun _ => true) true n3 5 (([c1, c2, c3].drop 0).take (Try.prog.cellsOf 5)) = some z0 := hg 0 _ rfl
              rw [z_5] at this; exact this
            have k1 : DataW.trod enc Try.prog w 0 (fun _ => true) true n3 32 [c2] = some z1 := by
              have this : DataW.trod enc Try.prog w 0 (fun _ => true) true n3 32 (([c1, c2, c3].drop 1).take (Try.prog.cellsOf 32)) = some z1 := hg 1 _ rfl
              rw [z_32] at this; exact this
            have k2 : DataW.trod enc Try.prog w 0 (fun _ => true) true n3 2 [c3] = some z2 := by
              have this : DataW.trod enc Try.prog w 0 (fun _ => true) true n3 2 (([c1, c2, c3].drop 2).take (Try.prog.cellsOf 2)) = some z2 := hg 2 _ rfl
              rw [z_2] at this; exact this
            obtain ⟨r0, t0, -, -⟩ := DataW.trod_int Try.underlying5 k0
            obtain ⟨r1, t1, -, -⟩ := DataW.trod_int Try.underlying32 k1
            obtain ⟨r2, t2, -, -⟩ := DataW.trod_int Try.underlying2 k2
            simp at hb0 q5 t0 t1 t2
            subst hb0 q5 t0 t1 t2
            refine ⟨⟨b, ⟨r0, r1, r2⟩, c4, l, n5⟩, ⟨hl1, hl2, Fi.i64_wf w5, hl3⟩, fun j u hj => ?_⟩
            have hjl : j < 6 := (List.getElem?_eq_some_iff.1 hj).1
            rw [← Go.Deep.add_add, hat j hjl]
            exact hj
    obtain ⟨l, hll, hL, hg⟩ := lie_of stpC_len n0 hq
    subst hll
    exact ⟨l, ⟨_, _, rfl, hl, hm, (fun h => by cases h), hL⟩, hg⟩
end Go.Proofs.Ytaepkmjlkenenaa
