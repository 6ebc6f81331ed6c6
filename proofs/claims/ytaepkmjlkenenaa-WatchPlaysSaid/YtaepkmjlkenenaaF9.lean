import Derived.Test.YtaepkmjlkenenaaF8
import Derived.Test.YtaepkmjlkenenaaRw
namespace Go.Proofs.Ytaepkmjlkenenaa
open Go.RowKit

/-- APPEND of many structs to an empty row of the call's own -/
theorem wpList_appN {P : Program} (w : World) {ops : Array Oper} {rest : List Oper} {o : Oper} {a : Act} {Q : Exit → Act → World → Prop} (hgd : o.guard = none) (s x : Operand) (t : TypeId)
    (ho : o.op = .call { callee := .builtin .append, args := #[s, x], argTypes := #[t, t] })
    (B : Nat) (e : TypeId) (z : Value) (sz bytes : Nat) (ht : P.underlying t = some (.slice e)) (hinfo : (P.info? e).map (fun i => (i.zero, i.size, i.bytes)) = some (some z, sz, bytes)) (hby : bytes ≤ 128)
    (hzs : z.cells.size = sz) (hsz : 0 < sz) {v : Value} {n : Nat} {xs : List Value} (hown : w.ownsRow B e sz v n xs) (us : List Value) (ad : Addr) (m c : Nat) (hus : us.length = m * sz) (hs : a.eval s = v) (hx : a.eval x = .slice (some ad) m c) (hl : Lie w (some ad) us) (h1 : ∀ u ∈ us, u.oneCell' = true)
    (hsmall : n + m ≤ 1099511627776) (hbase : B ≤ w.heap.size)
    (hK : ∀ v' w', w'.ownsRow B e sz v' (n + m) (xs ++ us) → Below B w w' → wpList P ops Q rest (a.put o.dst v') w') : wpList P ops Q (o :: rest) a w := by
  obtain ⟨i, hi, hz, hszz, hbytes⟩ := info_parts hinfo
  have hblk : ∀ k, v.ownBlock = some k → B ≤ k := fun k hk => (hown.lt k hk).1
  refine wpList_append_own w hgd s x t ho B e i z sz bytes ht hi hz hszz hbytes hzs hsz v n xs hs hown ad m c us hx hus ?_ h1 (by unfold maxLen; omega) ?_ hbase ?_
  · intro j u hj
    obtain ⟨ad', ha, hc⟩ := hl j u hj
    obtain rfl := Option.some.inj ha
    exact hc
  · exact Nat.le_trans (Nat.mul_le_mul hsmall hby) (by decide)
  · intro v' w' h2 h3 _
    exact hK v' w' h2 ((Below.refl _ _).grown h3 hbase hblk)
theorem flat_one {α : Type} {cells : α → List Value} (h : ∀ a, ∀ u ∈ cells a, u.oneCell' = true) (l : List α) : ∀ u ∈ l.flatMap cells, u.oneCell' = true := by
  intro u hu
  obtain ⟨a, -, ha⟩ := List.mem_flatMap.1 hu
  exact h a u ha
set_option maxRecDepth 100000 in
theorem cloneSt_any (v : Value) (l : List Fi.St) (hn : l.length ≤ 1000000) (w : World) (hl : Row stC w v l) :
    Calls Try.prog 45 #[v] w fun e w' => ∃ v', e = .returned v' ∧ w'.ownsRow w.heap.size 88 5 v' l.length (l.flatMap stC) ∧ Below w.heap.size w w' := by
  have q81 : ∀ (w : World) (a : Option Addr) (n c n' c' : Nat), (binOp .eql 81 (.slice a n c) (.slice none n' c')).run Try.prog w = .ok (.bool a.isNone) w := fun w a n c n' c' => Lib.run_eql_slice_nil w _ _ a n c n' c' Try.underlying81
  obtain ⟨ao, cap, rfl, h1, h2, h3, h4⟩ := hl
  cases ao with
  | none =>
    have hc0 : cap = 0 := h3 rfl
    have hl0 : l = [] := List.eq_nil_of_length_eq_zero (by omega)
    subst hl0
    subst hc0
    go_enter Try.func45, Try.ntmps45
    go_wp2_with fail
    go_ret
    exact ⟨_, rfl, World.ownsRow_nil _ _ 88 5, Below.refl _ _⟩
  | some ad =>
    have hal := Below.al (Below.refl w.heap.size w) (.cells #[] 88)
    have ho0 : (w.alloc (.cells #[] 88)).ownsRow w.heap.size 88 5 (.slice (some ⟨w.heap.size, 0, none⟩) 0 0) 0 [] := World.ownsRow_lit (base := w.heap.size) w #[] 0 (Nat.le_refl _) (by decide) rfl
    have h5 := h4.keep hal
    go_enter Try.func45, Try.ntmps45
    go_wp2_with (at_builtin; refine wpList_appN (w.alloc (.cells #[] 88)) rfl _ _ 81 rfl w.heap.size 88 _ 5 40 Try.underlying81 Try.info88 (by decide) rfl (by decide) ho0 (l.flatMap stC) ad l.length cap (flat_len _ _ stC_len l) rfl rfl h5 (flat_one st_one l) (by omega) (by simp) ?_; intro v' w' hown' hbel')
    go_ret
    exact ⟨v', rfl, by simpa using hown', hal.trans hbel'⟩
set_option maxRecDepth 100000 in
theorem cloneFi_any (v : Value) (l : List Fi.Fire) (hn : l.length ≤ 1000000) (w : World) (hl : Row fireC w v l) :
    Calls Try.prog 22 #[v] w fun e w' => ∃ v', e = .returned v' ∧ w'.ownsRow w.heap.size 58 7 v' l.length (l.flatMap fireC) ∧ Below w.heap.size w w' := by
  have q35 : ∀ (w : World) (a : Option Addr) (n c n' c' : Nat), (binOp .eql 35 (.slice a n c) (.slice none n' c')).run Try.prog w = .ok (.bool a.isNone) w := fun w a n c n' c' => Lib.run_eql_slice_nil w _ _ a n c n' c' Try.underlying35
  obtain ⟨ao, cap, rfl, h1, h2, h3, h4⟩ := hl
  cases ao with
  | none =>
    have hc0 : cap = 0 := h3 rfl
    have hl0 : l = [] := List.eq_nil_of_length_eq_zero (by omega)
    subst hl0
    subst hc0
    go_enter Try.func22, Try.ntmps22
    go_wp2_with fail
    go_ret
    exact ⟨_, rfl, World.ownsRow_nil _ _ 58 7, Below.refl _ _⟩
  | some ad =>
    have hal := Below.al (Below.refl w.heap.size w) (.cells #[] 58)
    have ho0 : (w.alloc (.cells #[] 58)).ownsRow w.heap.size 58 7 (.slice (some ⟨w.heap.size, 0, none⟩) 0 0) 0 [] := World.ownsRow_lit (base := w.heap.size) w #[] 0 (Nat.le_refl _) (by decide) rfl
    have h5 := h4.keep hal
    go_enter Try.func22, Try.ntmps22
    go_wp2_with (at_builtin; refine wpList_appN (w.alloc (.cells #[] 58)) rfl _ _ 35 rfl w.heap.size 58 _ 7 56 Try.underlying35 Try.info58 (by decide) rfl (by decide) ho0 (l.flatMap fireC) ad l.length cap (flat_len _ _ fireC_len l) rfl rfl h5 (flat_one fire_one l) (by omega) (by simp) ?_; intro v' w' hown' hbel')
    go_ret
    exact ⟨v', rfl, by simpa using hown', hal.trans hbel'⟩
theorem ru_one (s : Fi.Rule) : ∀ u ∈ ruC s, u.oneCell' = true := by
  intro u hu
  simp only [ruC, List.mem_cons, List.not_mem_nil, or_false] at hu
  rcases hu with rfl | rfl | rfl <;> rfl
theorem Try.info34 : (Try.prog.info? 34).map (fun i => (i.zero, i.size, i.bytes)) = some (some (.agg #[.int .u8 0, .int .u64 0, .int .i64 0]), 3, 24) := by kernel_rfl
set_option maxRecDepth 100000 in
theorem cloneRu_any (v : Value) (l : List Fi.Rule) (hn : l.length ≤ 1000000) (w : World) (hl : Row ruC w v l) :
    Calls Try.prog 24 #[v] w fun e w' => ∃ v', e = .returned v' ∧ w'.ownsRow w.heap.size 34 3 v' l.length (l.flatMap ruC) ∧ Below w.heap.size w w' := by
  have q40 : ∀ (w : World) (a : Option Addr) (n c n' c' : Nat), (binOp .eql 40 (.slice a n c) (.slice none n' c')).run Try.prog w = .ok (.bool a.isNone) w := fun w a n c n' c' => Lib.run_eql_slice_nil w _ _ a n c n' c' Try.underlying40
  obtain ⟨ao, cap, rfl, h1, h2, h3, h4⟩ := hl
  cases ao with
  | none =>
    have hc0 : cap = 0 := h3 rfl
    have hl0 : l = [] := List.eq_nil_of_length_eq_zero (by omega)
    subst hl0
    subst hc0
    go_enter Try.func24, Try.ntmps24
    go_wp2_with fail
    go_ret
    exact ⟨_, rfl, World.ownsRow_nil _ _ 34 3, Below.refl _ _⟩
  | some ad =>
    have hal := Below.al (Below.refl w.heap.size w) (.cells #[] 34)
    have ho0 : (w.alloc (.cells #[] 34)).ownsRow w.heap.size 34 3 (.slice (some ⟨w.heap.size, 0, none⟩) 0 0) 0 [] := World.ownsRow_lit (base := w.heap.size) w #[] 0 (Nat.le_refl _) (by decide) rfl
    have h5 := h4.keep hal
    go_enter Try.func24, Try.ntmps24
    go_wp2_with (at_builtin; refine wpList_appN (w.alloc (.cells #[] 34)) rfl _ _ 40 rfl w.heap.size 34 _ 3 24 Try.underlying40 Try.info34 (by decide) rfl (by decide) ho0 (l.flatMap ruC) ad l.length cap (flat_len _ _ ruC_len l) rfl rfl h5 (flat_one ru_one l) (by omega) (by simp) ?_; intro v' w' hown' hbel')
    go_ret
    exact ⟨v', rfl, by simpa using hown', hal.trans hbel'⟩
end Go.Proofs.Ytaepkmjlkenenaa
