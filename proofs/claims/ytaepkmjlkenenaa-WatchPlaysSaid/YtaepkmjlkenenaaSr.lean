/- Small laws, over any program: a slice of structs that reads as a list. -/
import Derived.Test.YtaepkmjlkenenaaK2
namespace Go.Proofs.Ytaepkmjlkenenaa
open Go.RowKit

theorem flat_get {α : Type} (cells : α → List Value) (sz : Nat) (hs : ∀ a, (cells a).length = sz) : ∀ (l : List α) (i : Nat) (a : α) (j : Nat) (u : Value), l[i]? = some a → (cells a)[j]? = some u → (l.flatMap cells)[i * sz + j]? = some u := by
  intro l
  induction l with
  | nil => intro i a j u h; simp at h
  | cons x l ih =>
    intro i a j u h hu
    rw [List.flatMap_cons]
    cases i with
    | zero =>
      simp at h
      subst h
      have := (List.getElem?_eq_some_iff.1 hu).1
      rw [Nat.zero_mul, Nat.zero_add, List.getElem?_append_left this]
      exact hu
    | succ i =>
      simp at h
      rw [List.getElem?_append_right (by rw [hs]; have : (i + 1) * sz = i * sz + sz := by rw [Nat.add_mul, Nat.one_mul]
                                         omega), hs]
      have e : (i + 1) * sz + j - sz = i * sz + j := by rw [Nat.add_mul, Nat.one_mul]; omega
      rw [e]
      exact ih i a j u h hu
theorem flat_len {α : Type} (cells : α → List Value) (sz : Nat) (hs : ∀ a, (cells a).length = sz) (l : List α) : (l.flatMap cells).length = l.length * sz := by
  induction l with
  | nil => simp
  | cons x l ih => rw [List.flatMap_cons, List.length_append, ih, hs, List.length_cons, Nat.add_mul, Nat.one_mul, Nat.add_comm]
/-- in world w the slice v reads as the structs l -/
def Row {α : Type} (cells : α → List Value) (w : World) (v : Value) (l : List α) : Prop :=
  ∃ ao cap, v = .slice ao l.length cap ∧ l.length ≤ cap ∧ cap ≤ maxLen ∧ (ao = none → cap = 0) ∧ Lie w ao (l.flatMap cells)
theorem Row.keep {α : Type} {cells : α → List Value} {w w' : World} {v : Value} {l : List α} (h : Row cells w v l) (hb : Below w.heap.size w w') : Row cells w' v l := by
  obtain ⟨ao, cap, hv, h1, h2, h3, h4⟩ := h
  exact ⟨ao, cap, hv, h1, h2, h3, h4.keep hb⟩
theorem Row.drew {α : Type} {cells : α → List Value} {w : World} {v : Value} {l : List α} (h : Row cells w v l) : Row cells w.drew v l := h
theorem Row.nil {α : Type} (cells : α → List Value) (w : World) : Row cells w (.slice none 0 0) [] := ⟨none, 0, rfl, Nat.le_refl _, Nat.zero_le _, fun _ => rfl, by intro j u h; simp at h⟩
theorem Row.form {α : Type} {cells : α → List Value} {w : World} {v : Value} {l : List α} (h : Row cells w v l) : ∃ ao cap, v = .slice ao l.length cap ∧ l.length ≤ cap ∧ cap ≤ maxLen ∧ (ao = none → cap = 0) := by
  obtain ⟨ao, cap, hv, h1, h2, h3, -⟩ := h
  exact ⟨ao, cap, hv, h1, h2, h3⟩
theorem Row.at {α : Type} {cells : α → List Value} {sz : Nat} (hs : ∀ a, (cells a).length = sz) (hsz : 0 < sz) {w : World} {ao : Option Addr} {n cap : Nat} {l : List α} (h : Row cells w (.slice ao n cap) l) (hl : 0 < l.length) :
    ∃ b off, ao = some ⟨b, off, none⟩ ∧ b < w.heap.size ∧ ∀ i a, l[i]? = some a → ∀ j u, (cells a)[j]? = some u → w.cell? ⟨b, off + i * sz + j, none⟩ = some u := by
  obtain ⟨ao', cap', hv, h1, h2, h3, h4⟩ := h
  simp only [Value.slice.injEq] at hv
  obtain ⟨rfl, -, -⟩ := hv
  have hfl := flat_len cells sz hs l
  have hpos : 0 < (l.flatMap cells).length := by rw [hfl]; exact Nat.mul_pos hl hsz
  obtain ⟨⟨b, off, spot⟩, rfl, hc⟩ := h4 0 (l.flatMap cells)[0] (by simp)
  have hsp : spot = none := by simpa [Addr.add] using World.cell?_spot hc
  subst hsp
  refine ⟨b, off, rfl, World.block_lt_of_cell? w _ hc, fun i a ha j u hu => ?_⟩
  obtain ⟨ad, had, hc'⟩ := h4 _ u (flat_get cells sz hs l i a j u ha hu)
  obtain rfl := Option.some.inj had
  rw [Addr.add_lit, ← Nat.add_assoc] at hc'
  exact hc'
/-- a row of the call's own reads so -/
theorem Row.own {α : Type} {cells : α → List Value} {sz : Nat} (hs : ∀ a, (cells a).length = sz) {w : World} {B : Nat} {E : TypeId} {v : Value} {l : List α} (h : w.ownsRow B E sz v l.length (l.flatMap cells)) (hsz : 0 < sz) : Row cells w v l := by
  rcases h.2 with ⟨rfl, hn⟩ | ⟨g, cap, cur, rfl, hb, hg, h1, h2, h3, h4⟩
  · have : l = [] := List.eq_nil_of_length_eq_zero hn
    subst this
    exact Row.nil cells w
  · refine ⟨some ⟨g, 0, none⟩, cap, rfl, h1, h2, (fun h => by cases h), fun j u hu => ⟨_, rfl, ?_⟩⟩
    rw [Addr.add_lit, Nat.zero_add, cell_of_row w g j cur E (0, 0) hg]
    have hj := (List.getElem?_eq_some_iff.1 hu).1
    rw [flat_len cells sz hs] at hj
    rw [← h4, List.getElem?_take, if_pos hj] at hu
    simpa using hu
theorem ownN_form {w : World} {B : Nat} {E : TypeId} {sz : Nat} {v : Value} {n : Nat} {us : List Value} (h : w.ownsRow B E sz v n us) : ∃ ao cap, v = .slice ao n cap ∧ n ≤ cap ∧ cap ≤ maxLen := by
  rcases h.2 with ⟨rfl, rfl⟩ | ⟨g, cap, cur, rfl, hb, hg, h1, h2, h3, h4⟩
  · exact ⟨none, 0, rfl, Nat.le_refl _, Nat.zero_le _⟩
  · exact ⟨_, cap, rfl, h1, h2⟩
theorem ownN_keepAt {w w' : World} {B : Nat} {E : TypeId} {sz : Nat} {v : Value} {n : Nat} {xs : List Value} (h : w.ownsRow B E sz v n xs) (hk : ∀ k, v.ownBlock = some k → w'.heap[k]? = w.heap[k]?) : w'.ownsRow B E sz v n xs := by
  refine ⟨h.1, ?_⟩
  rcases h.2 with h0 | ⟨g, cap, cur, rfl, hb, hg, h1⟩
  · exact .inl h0
  · exact .inr ⟨g, cap, cur, rfl, hb, (hk g rfl).trans hg, h1⟩
/-- APPEND of one struct to a row of the call's own: the struct lies in a block of its own. -/
theorem wpList_appS {P : Program} (w : World) {ops : Array Oper} {rest : List Oper} {o : Oper} {a : Act} {Q : Exit → Act → World → Prop} (hgd : o.guard = none) (s x : Operand) (t : TypeId)
    (ho : o.op = .call { callee := .builtin .append, args := #[s, x], argTypes := #[t, t] })
    (B : Nat) (e : TypeId) (z : Value) (sz bytes : Nat) (ht : P.underlying t = some (.slice e)) (hinfo : (P.info? e).map (fun i => (i.zero, i.size, i.bytes)) = some (some z, sz, bytes)) (hby : bytes ≤ 128)
    (hzs : z.cells.size = sz) (hsz : 0 < sz) {v : Value} {n : Nat} {xs : List Value} (hown : w.ownsRow B e sz v n xs) (us : List Value) (hus : us.length = sz) (hs : a.eval s = v) (hx : a.eval x = .slice (some ⟨w.heap.size, 0, none⟩) 1 1) (h1 : ∀ u ∈ us, u.oneCell' = true)
    (hsmall : n + 1 ≤ 1099511627776) (hbase : B ≤ w.heap.size)
    (hK : ∀ v' w', w'.ownsRow B e sz v' (n + 1) (xs ++ us) → Below B w w' → wpList P ops Q rest (a.put o.dst v') w') : wpList P ops Q (o :: rest) a (w.alloc (.cells us.toArray e)) := by
  obtain ⟨i, hi, hz, hszz, hbytes⟩ := info_parts hinfo
  have hblk : ∀ k, v.ownBlock = some k → B ≤ k := fun k hk => (hown.lt k hk).1
  refine wpList_append_own (w.alloc (.cells us.toArray e)) hgd s x t ho B e i z sz bytes ht hi hz hszz hbytes hzs hsz v n xs hs (hown.alloc _) ⟨w.heap.size, 0, none⟩ 1 1 us hx (by rw [hus, Nat.one_mul]) ?_ h1 (by unfold maxLen; omega) ?_ (by simp; omega) ?_
  · intro j u hj
    rw [Addr.add_lit, World.cell?_alloc_at _ _ _ _ rfl]
    simpa using hj
  · exact Nat.le_trans (Nat.mul_le_mul hsmall hby) (by decide)
  · intro v' w' h2 h3 _
    exact hK v' w' h2 (((Below.refl _ _).alloc hbase _).grown h3 (by simp; omega) hblk)
end Go.Proofs.Ytaepkmjlkenenaa
