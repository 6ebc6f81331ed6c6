import Derived.Test.YtaepkmjlkenenaaF10
namespace Go.Proofs.Ytaepkmjlkenenaa
open Go.RowKit Go.Shelf
attribute [local go_sem] Oper.semAt_some

set_option maxRecDepth 100000 in
theorem on_any (pv : Option Addr) (w : World) :
    Calls Try.prog 20 #[.pointer pv] w fun e w' => ∃ bx, e = .returned (.func (.func 44) #[] #[.pointer (some ⟨bx, 0, none⟩)]) ∧ NumAt w' bx 42 (.pointer pv) ∧ w.heap.size ≤ bx ∧ Below w.heap.size w w' := by
  go_enter Try.func20, Try.ntmps20
  go_wp2_with fail
  go_ret
  exact ⟨_, rfl, by unfold NumAt World.alloc; simp, Nat.le_refl _, Below.al (Below.refl _ _) _⟩
set_option maxRecDepth 100000 in
theorem on_none (n : Nat) (encs : Nat → Array Value) (bx : Nat) (Fr : Nat → Prop) (w : World) (hBx : NumAt w bx 42 (.pointer none)) :
    SeqN Fence.wide n Try.prog 44 #[.pointer (some ⟨bx, 0, none⟩)] encs 0 Fr w := fun L J Jx W Fr' hW hFr hJ hJx hY h0 => by
  have hb0 := (hBx.keep hW).cell
  refine callsIn_of_wp Try.func44 rfl trivial ?_ rfl
  simp only [Try.ntmps44, List.size_toArray, List.length_cons, List.length_nil, Nat.reduceAdd, Nat.reduceSub, Array.replicate_succ, Array.replicate_zero, List.push_toArray, List.append_toArray, List.nil_append, List.cons_append]
  gi_wp2
  refine bodyPost_ret (results_none rfl _ _ _) rfl ?_
  exact ⟨⟨_, rfl⟩, .inl h0⟩
set_option maxRecDepth 100000 in
theorem fire_any (at' state : Int) (w : World) :
    Calls Try.prog 34 #[.int .i64 at', .int .i64 state] w fun e w' => e = .returned (.agg #[.int .u64 1, .int .i64 at', .int .i64 state, .int .i64 0, .int .u64 0, .int .u64 0, .int .i64 0]) ∧ Below w.heap.size w w' := by
  go_enter Try.func34, Try.ntmps34
  go_wp2_with fail
  exact bodyPost_ret (v := .agg #[.int .u64 1, .int .i64 at', .int .i64 state, .int .i64 0, .int .u64 0, .int .u64 0, .int .i64 0]) (by simp [results, Try.results34, go_sem]) rfl ⟨rfl, Below.al (Below.refl _ w) _⟩
set_option maxRecDepth 100000 in
theorem heavy_any (ao : Option Addr) (n cap : Nat) (w : World) :
    Calls Try.prog 14 #[.slice ao n cap] w fun e w' => e = .returned (.bool (decide (200 < (n : Int)))) ∧ Below w.heap.size w w' := by
  go_enter Try.func14, Try.ntmps14
  go_wp2_with fail
  go_ret
  exact ⟨rfl, Below.refl _ _⟩
set_option maxRecDepth 100000 in
theorem rule_none (k : Int) (w : World) :
    Calls Try.prog 27 #[.pointer none, .int .i64 k] w fun e w' => e = .returned (.tuple #[ruleV ⟨0, 0, 0⟩, .bool false]) ∧ Below w.heap.size w w' := by
  go_enter Try.func27, Try.ntmps27
  go_wp2_with fail
  exact bodyPost_ret (v := .tuple #[ruleV ⟨0, 0, 0⟩, .bool false]) (by simp [results, Try.results27, go_sem]) rfl ⟨rfl, Below.al (Below.refl _ w) _⟩
set_option maxRecDepth 100000 in
theorem rule_bad (b : Nat) (v : Value) (l : List Fi.St) (last k : Int) (hl : l.length ≤ 1000) (hk : k < 0 ∨ (0 ≤ k ∧ (l.length : Int) ≤ k)) (w : World) (hW : WV w b v l last) :
    Calls Try.prog 27 #[.pointer (some ⟨b, 0, none⟩), .int .i64 k] w fun e w' => e = .returned (.tuple #[ruleV ⟨0, 0, 0⟩, .bool false]) ∧ Below w.heap.size w w' := by
  obtain ⟨vo, vc, rfl, -, -⟩ := ownN_form hW.own
  obtain ⟨c0, c1⟩ := (hW.keep (Below.al (Below.refl _ _) (.cells #[.int .u8 0, .int .u64 0, .int .i64 0] 34))).c0
  clear hW
  rcases hk with hk | ⟨h0, hk⟩
  · go_enter Try.func27, Try.ntmps27
    go_wp2_with fail
    exact bodyPost_ret (v := .tuple #[ruleV ⟨0, 0, 0⟩, .bool false]) (by simp [results, Try.results27, go_sem]) rfl ⟨rfl, Below.al (Below.refl _ w) _⟩
  · go_enter Try.func27, Try.ntmps27
    have hk2 : ¬ k < 0 := by omega
    go_wp2_with fail
    exact bodyPost_ret (v := .tuple #[ruleV ⟨0, 0, 0⟩, .bool false]) (by simp [results, Try.results27, go_sem]) rfl ⟨rfl, Below.al (Below.refl _ w) _⟩
set_option maxRecDepth 100000 in
theorem rule_at (b : Nat) (v : Value) (l : List Fi.St) (last : Int) (k : Nat) (s : Fi.St) (hl : l.length ≤ 1000) (hk : l[k]? = some s) (w : World) (hW : WV w b v l last) :
    Calls Try.prog 27 #[.pointer (some ⟨b, 0, none⟩), .int .i64 k] w fun e w' => e = .returned (.tuple #[ruleV s.rule, .bool true]) ∧ Below w.heap.size w w' := by
  have hlt : k < l.length := (List.getElem?_eq_some_iff.1 hk).1
  have hlt' : (k : Int) < (l.length : Int) := by omega
  obtain ⟨g, cap, rfl, hg, hglt⟩ := ownN_row hW.own (by omega)
  replace hW := hW.keep (Below.al (Below.refl _ _) (.cells #[.int .u8 0, .int .u64 0, .int .i64 0] 34))
  obtain ⟨c0, c1⟩ := hW.c0
  have hcell := fun (j : Nat) (u : Value) (hu : (stC s)[j]? = some u) => (ownN_cell hW.own (flat_get stC 5 stC_len _ k s j u hk hu)).1
  have x0 : (w.alloc (.cells #[.int .u8 0, .int .u64 0, .int .i64 0] 34)).cell? ⟨g, k * 5, none⟩ = some (.int .u8 s.rule.kind) := hcell 0 _ rfl
  have x1 := hcell 1 _ rfl
  have x2 := hcell 2 _ rfl
  clear hcell hW hk
  go_enter Try.func27, Try.ntmps27
  go_wp2_with fail
  exact bodyPost_ret (v := .tuple #[ruleV s.rule, .bool true]) (by simp [results, Try.results27, go_sem]) rfl ⟨rfl, Below.al (Below.refl _ w) _⟩
end Go.Proofs.Ytaepkmjlkenenaa
