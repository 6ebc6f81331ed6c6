/- Bits turned in a row of bytes; an append inside a region whose order is drawn (bit_of .. u32_of_wf stand in T1 too: never import both). -/
import Derived.Test.YtlcnjinabfbglaaQ11
import Derived.Test.YtlcnjinabfbglaaFr4
namespace Go.Proofs.Ytlcnjinabfbglaa
open Go.RowKit
theorem bit_of (c : BitVec 32) (k : Nat) : bits .and .u32 (U c / 2 ^ k) 1 = (if c.getLsbD k then 1 else 0) := by
  have e : U c / 2 ^ k = ((c.toNat / 2 ^ k : Nat) : Int) := by unfold U; push_cast; rfl
  have hlt : c.toNat / 2 ^ k < 4294967296 := Nat.lt_of_le_of_lt (Nat.div_le_self _ _) c.isLt
  have := u32_and_nat (c.toNat / 2 ^ k) 1 hlt (by omega)
  rw [Nat.and_one_is_mod] at this
  rw [e, show (1 : Int) = ((1 : Nat) : Int) from rfl, this, BitVec.getLsbD, Nat.testBit_eq_decide_div_mod_eq]
  generalize c.toNat / 2 ^ k = y
  by_cases h : y % 2 = 1
  · simp [h]
  · have : y % 2 = 0 := by omega
    simp [this]
/-- one store into a row of bytes -/
theorem byte_row {w : World} {g : Nat} {L : List UInt8} {sp : List Value} (h : w.heap[g]? = some (.cells (L.map by8 ++ sp).toArray 5 (0, 0))) {j : Nat} (hj : j < L.length) :
    w.cell? ⟨g, j, none⟩ = some (by8 (L.getD j 0)) ∧ w.frozen? ⟨g, j, none⟩ = false ∧ ∀ b, (w.setCell ⟨g, j, none⟩ (by8 b)).heap[g]? = some (.cells ((L.set j b).map by8 ++ sp).toArray 5 (0, 0)) := by
  have hu : (L.map by8)[j]? = some (by8 (L.getD j 0)) := by simp [hj]
  obtain ⟨h1, h2⟩ := row_cell h hu
  refine ⟨h1, h2, fun b => ?_⟩
  rw [row_set h (by simpa using hj), List.map_set]

theorem turn_val (x : UInt8) (k : Nat) : bits .xor .u8 (x.toNat : Int) (2 ^ (k % 8) % 256) = ((Crc.turnBit x (k % 8)).toNat : Int) := by
  have hk : k % 8 < 8 := by omega
  rw [Crc.turnBit_nat x _ hk]
  have hp : 2 ^ (k % 8) < 256 := by
    have := Nat.pow_lt_pow_right (a := 2) (by omega) hk
    exact this
  have e : (2 : Int) ^ (k % 8) % 256 = ((2 ^ (k % 8) : Nat) : Int) := by
    have : ((2 ^ (k % 8) : Nat) : Int) = (2 : Int) ^ (k % 8) := by push_cast; rfl
    rw [← this]
    clear this
    generalize 2 ^ (k % 8) = p at *
    omega
  rw [e]
  exact u8_xor_nat _ _ x.toNat_lt hp
theorem U_inj {c d : BitVec 32} (h : U c = U d) : c = d := by
  unfold U at h
  exact BitVec.eq_of_toNat_eq (by omega)
theorem U_beq (c d : BitVec 32) : (U c == U d) = decide (c = d) := by
  by_cases h : c = d
  · subst h; simp
  · have : U c ≠ U d := fun e => h (U_inj e)
    simp [h, this]
theorem u32_of_wf {m : Int} (h : (Lit.int .u32 m).wf = true) : ∃ c : BitVec 32, m = U c := by
  simp [Lit.wf, IntKind.min, IntKind.max, IntKind.signed, IntKind.bits] at h
  refine ⟨BitVec.ofNat 32 m.toNat, ?_⟩
  unfold U
  rw [BitVec.toNat_ofNat]
  omega
/-- APPEND to a row of the call's own, whatever is appended (nil too): one operation, for itself. -/
theorem wp_app {P : Program} (w : World) {o : Oper} {a : Act} {K : Act → World → Prop} {Q : Exit → Act → World → Prop} (s x : Operand) (t : TypeId)
    (ho : o.op = .call { callee := .builtin .append, args := #[s, x], argTypes := #[t, t] })
    (B : Nat) (e : TypeId) (z : Value) (bytes : Nat) (ht : P.underlying t = some (.slice e)) (hinfo : (P.info? e).map (fun i => (i.zero, i.size, i.bytes)) = some (some z, 1, bytes)) (hby : bytes ≤ 128)
    (hzs : z.cells.size = 1) {v : Value} {n : Nat} {xs : List Value} (hown : w.ownsRow B e 1 v n xs) (hs : a.eval s = v)
    (ao : Option Addr) (m c : Nat) (news : List Value) (hx : a.eval x = .slice ao m c) (hc0 : ao = none → c = 0) (hm : news.length = m) (hl : Lie w ao news) (h1 : ∀ u ∈ news, u.oneCell' = true)
    (hsmall : n + m ≤ 1099511627776) (hbase : B ≤ w.heap.size)
    (hK : ∀ v' w', w'.ownsRow B e 1 v' (n + m) (xs ++ news) → w.grownBy w' v.ownBlock → Below B w w' → K (a.put o.dst v') w') : o.wp P a w K Q := by
  obtain ⟨i, hi, hz, hsz, hbytes⟩ := info_parts hinfo
  have hblk : ∀ k, v.ownBlock = some k → B ≤ k := fun k hk => (hown.lt k hk).1
  cases ao with
  | some ad =>
    refine wp_append_own w s x t ho B e i z 1 bytes ht hi hz hsz hbytes hzs (by decide) v n xs hs hown ad m c news hx (by omega) ?_ h1 (by unfold maxLen; omega) ?_ hbase ?_
    · intro j u hu
      obtain ⟨ad', ha, hc⟩ := hl j u hu
      obtain rfl := Option.some.inj ha
      exact hc
    · exact Nat.le_trans (Nat.mul_le_mul hsmall hby) (by decide)
    · intro v' w' h2 h3 _
      exact hK v' w' h2 h3 ((Below.refl _ _).grown h3 hbase hblk)
  | none =>
    have hn : news = [] := by
      cases news with
      | nil => rfl
      | cons u us => obtain ⟨ad, ha, _⟩ := hl 0 u rfl; cases ha
    subst hn
    simp only [List.length_nil] at hm
    subst hm
    obtain rfl := hc0 rfl
    have hrun := run_append_owned_none (P := P) (w := w) B t o.type e i 1 ht hi v n xs hown
    unfold Oper.wp
    simp [execOp, ho, resolve, invoke, builtin, hs, hx, hrun, Result.andThen]
    exact hK v w (by simpa using hown) (World.grownBy.refl _ _) (Below.refl _ _)

/-- the elements of rows, and one more -/
theorem Parts.snoc {w : World} {us : List Value} {ls : List (List UInt8)} {u : Value} {s : List UInt8} (h : Parts w us ls) (hu : Bts w u s) : Parts w (us ++ [u]) (ls ++ [s]) := by
  refine ⟨by rw [List.length_append, List.length_append, h.1]; rfl, fun i hi => ?_⟩
  rw [List.length_append, List.length_singleton] at hi
  by_cases hl : i < ls.length
  · obtain ⟨x, h1, h2⟩ := h.2 i hl
    refine ⟨x, by rw [List.getElem?_append_left (by rw [h.1]; exact hl)]; exact h1, ?_⟩
    have : (ls ++ [s]).getD i [] = ls.getD i [] := by simp [List.getD_eq_getElem?_getD, List.getElem?_append_left hl]
    rw [this]; exact h2
  · obtain rfl : i = ls.length := by omega
    refine ⟨u, by rw [← h.1]; simp, ?_⟩
    have : (ls ++ [s]).getD ls.length [] = s := by simp [List.getD_eq_getElem?_getD]
    rw [this]; exact hu
theorem Parts.one {w : World} {us : List Value} {ls : List (List UInt8)} (h : Parts w us ls) : ∀ u ∈ us, u.oneCell' = true := by
  intro u hu
  obtain ⟨i, hi, rfl⟩ := List.mem_iff_getElem.1 hu
  obtain ⟨x, h1, h2⟩ := h.2 i (by rw [← h.1]; exact hi)
  rw [List.getElem?_eq_getElem hi] at h1
  obtain rfl := Option.some.inj h1
  obtain ⟨ao, cap, hv, -⟩ := h2.form
  rw [hv]; rfl
theorem own_lit0R (w : World) : (w.alloc (.cells #[] 22)).ownsRow w.heap.size 22 1 (.slice (some ⟨w.heap.size, 0, none⟩) 0 0) 0 [] :=
  World.ownsRow_lit (base := w.heap.size) w #[] 0 (Nat.le_refl _) (by decide) rfl
end Go.Proofs.Ytlcnjinabfbglaa
