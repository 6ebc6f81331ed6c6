import Derived.Test.YtaepkmjlkenenaaF9
namespace Go.Proofs.Ytaepkmjlkenenaa
open Go.RowKit Go.Shelf
attribute [local go_sem] Oper.semAt_some

/-- what On hands over -/
def onsL (l : List Fi.St) : List (Int × Int) := (l.zipIdx.filter fun x => x.1.on).map fun x => ((x.2 : Int), x.1.since)
theorem onsL_on (l : List Fi.St) (s : Fi.St) (h : s.on = true) : onsL (l ++ [s]) = onsL l ++ [((l.length : Int), s.since)] := by simp [onsL, List.zipIdx_append, List.filter_append, h]
theorem onsL_off (l : List Fi.St) (s : Fi.St) (h : s.on = false) : onsL (l ++ [s]) = onsL l := by simp [onsL, List.zipIdx_append, List.filter_append, h]
theorem onsL_app (a b : List Fi.St) : ∃ r, onsL (a ++ b) = onsL a ++ r := by
  simp only [onsL, List.zipIdx_append, List.filter_append, List.map_append]; exact ⟨_, rfl⟩
theorem onsL_take (l : List Fi.St) (k : Nat) : ∃ r, onsL l = onsL (l.take k) ++ r := by
  have h := onsL_app (l.take k) (l.drop k)
  rwa [List.take_append_drop] at h
def onEnc (l : List Fi.St) (k : Nat) : Array Value := #[.int .i64 (((onsL l)[k]?.getD (0, 0)).1), .int .i64 (((onsL l)[k]?.getD (0, 0)).2)]
theorem on_round (l : List Fi.St) (k : Nat) (s : Fi.St) (hs : l[k]? = some s) (h : s.on = true) :
    (onsL (l.take k)).length < (onsL l).length ∧ onEnc l (onsL (l.take k)).length = #[.int .i64 k, .int .i64 s.since] ∧ (onsL (l.take (k + 1))).length = (onsL (l.take k)).length + 1 := by
  obtain ⟨hk, rfl⟩ := List.getElem?_eq_some_iff.1 hs
  have h1 := onsL_on (l.take k) l[k] h
  rw [← List.take_succ_eq_append_getElem hk] at h1
  obtain ⟨r, hr⟩ := onsL_take l (k + 1)
  rw [h1] at hr
  have hl : (l.take k).length = k := by rw [List.length_take]; omega
  refine ⟨by rw [hr]; simp, ?_, by rw [h1]; simp⟩
  unfold onEnc
  rw [hr]
  simp [hl]
theorem on_skip (l : List Fi.St) (k : Nat) (s : Fi.St) (hs : l[k]? = some s) (h : s.on = false) : onsL (l.take (k + 1)) = onsL (l.take k) := by
  obtain ⟨hk, rfl⟩ := List.getElem?_eq_some_iff.1 hs
  have h1 := onsL_off (l.take k) l[k] h
  rwa [← List.take_succ_eq_append_getElem hk] at h1

set_option maxRecDepth 100000 in
set_option maxHeartbeats 2000000 in
theorem on_seq (n : Nat) (hn : 1 ≤ n) (b : Nat) (v : Value) (l : List Fi.St) (last : Int) (hl : l.length ≤ 1000) (bx : Nat) (Fr : Nat → Prop) (w : World) (hWV : WV w b v l last) (hBx : NumAt w bx 42 (.pointer (some ⟨b, 0, none⟩))) :
    SeqN Fence.wide n Try.prog 44 #[.pointer (some ⟨bx, 0, none⟩)] (onEnc l) (onsL l).length Fr w := fun L J Jx W Fr' hW hFr hJ hJx hY h0 => by
  have hV1 := hWV.keep hW
  have hB1 := hBx.keep hW
  have hb0 := hB1.cell
  obtain ⟨c0, c1⟩ := hV1.c0
  have hcl := cloneSt_any v l (by omega) W (Row.own stC_len hV1.own (by omega))
  clear hWV hBx hW hV1 hB1
  refine callsIn_of_wp Try.func44 rfl trivial ?_ rfl
  simp only [Try.ntmps44, List.size_toArray, List.length_cons, List.length_nil, Nat.reduceAdd, Nat.reduceSub, Array.replicate_succ, Array.replicate_zero, List.push_toArray, List.append_toArray, List.nil_append, List.cons_append]
  gi_wp2_with (refine ⟨trivial, ?_⟩; gi_at_call 45; refine (callsIn_wide.2 hcl).mono ?_; clear hcl; rintro e w1 ⟨cv, rfl, hown, hc⟩; obtain ⟨ao, cap, rfl, hn1, hn2⟩ := ownN_form hown)
  have hJ0 := hJ _ _ _ h0 hc
  have hz := hc.size
  clear c0 c1 hb0 hc
  gi_loopw [13] (fun i wr => ∃ k : Nat, k ≤ l.length ∧ i = .int .i64 k ∧ J (onsL (l.take k)).length wr ∧ W.heap.size ≤ wr.heap.size ∧ wr.ownsRow W.heap.size 88 5 (.slice ao l.length cap) l.length (l.flatMap stC)) (fun i _ => l.length - (intOf i).toNat)
  case atStart => exact ⟨0, by omega, rfl, by simpa [onsL] using hJ0, hz, hown⟩
  case round =>
    clear hJ0 hz hown h0
    obtain ⟨k, hk, rfl, hJk, hzr, hown⟩ := hrel
    by_cases hlt : k < l.length
    · have hlt' : (k : Int) < (l.length : Int) := by omega
      obtain ⟨g, cap', hvg, hg, hglt⟩ := ownN_row hown (by omega)
      obtain ⟨rfl, rfl⟩ : ao = some ⟨g, 0, none⟩ ∧ cap = cap' := by simpa using hvg
      clear hvg
      have hmk : l[k]? = some l[k] := List.getElem?_eq_getElem hlt
      have hor := on_round l k l[k] hmk
      have hos := on_skip l k l[k] hmk
      generalize l[k] = s at *
      have hcell := fun (j : Nat) (u : Value) (hu : (stC s)[j]? = some u) => (ownN_cell hown (flat_get stC 5 stC_len _ k s j u hmk hu))
      have x0 : wr.cell? ⟨g, k * 5, none⟩ = some (.int .u8 s.rule.kind) := (hcell 0 _ rfl).1
      have x1 := (hcell 1 _ rfl).1
      have x2 := (hcell 2 _ rfl).1
      have x3 := (hcell 3 _ rfl).1
      have x4 := (hcell 4 _ rfl).1
      have hJal : ∀ w3, Below wr.heap.size wr w3 → J (onsL (l.take k)).length w3 ∧ W.heap.size ≤ w3.heap.size ∧ w3.ownsRow W.heap.size 88 5 (.slice (some ⟨g, 0, none⟩) l.length cap) l.length (l.flatMap stC) := fun w3 hb =>
        ⟨hJ _ _ _ hJk (hb.mono hzr), Nat.le_trans hzr hb.size, ownN_keepAt hown (fun j hj => hb.block j (World.ownsRow.lt hown j hj).2)⟩
      have HJ := Lib.hid hJal
      clear hcell hJal hmk
      cases hon : s.on with
      | false =>
        rw [hon] at x3
        have HO := Lib.hid (hos hon)
        clear hor hos hon
        gi_wp2
        refine ⟨nofun, ?_⟩
        gi_wp2
        obtain ⟨hJ3, hz3, hown3⟩ := HJ.out _ (Below.al (Below.refl _ _) (.cells #[.int .u8 s.rule.kind, .int .u64 s.rule.job, .int .i64 s.rule.n, .bool false, .int .i64 s.since] 88))
        exact ⟨⟨k + 1, by omega, by go_num, by rw [HO.out]; exact hJ3, hz3, hown3⟩, by simp [intOf]; omega⟩
      | true =>
        rw [hon] at x3
        obtain ⟨ho1, ho2, ho3⟩ := hor hon
        have hYk := fun w3 h1 h2 => hY _ w3 ho1 h1 h2
        rw [ho2] at hYk
        have HYK := Lib.hid hYk
        have HO := Lib.hid (And.intro ho1 ho3)
        clear hor hos hon ho1 ho2 ho3 hYk
        obtain ⟨hJ3, hz3, hown3⟩ := HJ.out (wr.alloc (.cells #[.int .u8 s.rule.kind, .int .u64 s.rule.job, .int .i64 s.rule.n, .bool true, .int .i64 s.since] 88)) (Below.al (Below.refl _ _) _)
        obtain ⟨fn, tmps, assign, body, hy, hR⟩ := HYK.out _ hJ3 hz3
        gi_wp2
        refine hR.mono ?_
        rintro e W4 (⟨rfl, hJ4, ho⟩ | ⟨rfl, hx4⟩)
        · have hz4 := Nat.le_trans hz3 ho.size
          have hown4 := ownN_keepAt hown3 (fun j hj => ho.same j (World.ownsRow.lt hown3 j hj).2 (fun hf => by have h1 := (World.ownsRow.lt hown3 j hj).1; have h2 := (hFr _ hf).2; omega))
          clear hy hR
          gi_wp2
          exact ⟨⟨k + 1, by omega, by go_num, by rw [HO.out.2]; exact hJ4, hz4, hown4⟩, by simp [intOf]; omega⟩
        · clear hy hR
          gi_wp2
          refine bodyPost_ret (results_none rfl _ _ _) rfl ?_
          exact ⟨⟨_, rfl⟩, .inr ⟨_, HO.out.1, hx4⟩⟩
    · obtain rfl : k = l.length := by omega
      rw [List.take_length] at hJk
      gi_wp2
      go_end0
      exact ⟨⟨_, rfl⟩, .inl hJk⟩
end Go.Proofs.Ytaepkmjlkenenaa
