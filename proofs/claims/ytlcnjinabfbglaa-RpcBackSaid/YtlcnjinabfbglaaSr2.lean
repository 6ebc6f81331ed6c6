/- Small laws, over any program: a field of a struct in a row of the call's own is written. -/
import Derived.WalkKit
import Derived.WalkSpells
import Derived.WalkLawsBesides
import Derived.Lib.Hide
import Derived.Laws.CopyOwn
import Derived.Deep.WholeRow
import Derived.Lib.SlBytesConst
namespace Go.Proofs.Ytlcnjinabfbglaa
open Go.RowKit

theorem ret_int {k : IntKind} {a b : Int} (h : a = b) : Ending.returned (.int k a) = .returned (.int k b) := by rw [h]
theorem ret_bool {a b : Bool} (h : a = b) : Ending.returned (.bool a) = .returned (.bool b) := by rw [h]
theorem ret_val {a b : Value} (h : a = b) : Ending.returned a = .returned b := by rw [h]

/-- a byte as a value -/
abbrev by8 (x : UInt8) : Value := .int .u8 (x.toNat : Int)

/-- what lies below, and a call that leaves what was below its own heap -/
theorem Below.call {w a b : World} (h : Below w.heap.size w a) (h2 : Below a.heap.size a b) : Below w.heap.size w b := h.trans (h2.mono h.size)

theorem Below.al {w a : World} (h : Below w.heap.size w a) (o : Obj) : Below w.heap.size w (a.alloc o) := h.alloc h.size o

/-- the values us lie one behind the other at ao -/
def Lie (w : World) (ao : Option Addr) (us : List Value) : Prop := ∀ j u, us[j]? = some u → ∃ ad, ao = some ad ∧ w.cell? (ad.add j) = some u
theorem Lie.keep {w w' : World} {ao : Option Addr} {us : List Value} (h : Lie w ao us) (hb : Below w.heap.size w w') : Lie w' ao us := by
  intro j u hu
  obtain ⟨ad, ha, hc⟩ := h j u hu
  exact ⟨ad, ha, (hb.cell (World.block_lt_of_cell? w _ hc)).trans hc⟩
/-- in world w the slice v reads as the values us -/
def Sli (w : World) (v : Value) (us : List Value) : Prop :=
  ∃ ao cap, v = .slice ao us.length cap ∧ us.length ≤ cap ∧ cap ≤ maxLen ∧ (ao = none → cap = 0) ∧ Lie w ao us
theorem Sli.keep {w w' : World} {v : Value} {us : List Value} (h : Sli w v us) (hb : Below w.heap.size w w') : Sli w' v us := by
  obtain ⟨ao, cap, hv, h1, h2, h3, h4⟩ := h
  exact ⟨ao, cap, hv, h1, h2, h3, h4.keep hb⟩
theorem Sli.at {w : World} {ao : Option Addr} {n cap : Nat} {us : List Value} (h : Sli w (.slice ao n cap) us) (hl : 0 < us.length) :
    ∃ b off, ao = some ⟨b, off, none⟩ ∧ b < w.heap.size ∧ ∀ i u, us[i]? = some u → w.cell? ⟨b, off + i, none⟩ = some u := by
  obtain ⟨ao', cap', hv, h1, h2, h3, h4⟩ := h
  simp only [Value.slice.injEq] at hv
  obtain ⟨rfl, -, -⟩ := hv
  obtain ⟨⟨b, off, spot⟩, rfl, hc⟩ := h4 0 us[0] (by simp)
  have hs : spot = none := by simpa [Addr.add] using World.cell?_spot hc
  subst hs
  refine ⟨b, off, rfl, World.block_lt_of_cell? w _ hc, fun i u hu => ?_⟩
  obtain ⟨ad, ha, hc'⟩ := h4 i u hu
  obtain rfl := Option.some.inj ha
  rw [Addr.add_lit] at hc'
  exact hc'
theorem Sli.lie {w : World} {ao : Option Addr} {n cap : Nat} {us : List Value} (h : Sli w (.slice ao n cap) us) : Lie w ao us := by
  obtain ⟨ao', cap', hv, h1, h2, h3, h4⟩ := h
  simp only [Value.slice.injEq] at hv
  obtain ⟨rfl, -, -⟩ := hv
  exact h4
theorem Sli.drew {w : World} {v : Value} {us : List Value} (h : Sli w v us) : Sli w.drew v us := h
theorem Sli.nil (w : World) : Sli w (.slice none 0 0) [] := ⟨none, 0, rfl, Nat.le_refl _, Nat.zero_le _, fun _ => rfl, by intro j u h; simp at h⟩
/-- a row of the call's own reads so -/
theorem Sli.own {w : World} {B : Nat} {E : TypeId} {v : Value} {n : Nat} {us : List Value} (h : w.ownsRow B E 1 v n us) : Sli w v us := by
  have hl := h.1
  rw [Nat.mul_one] at hl
  rcases h.2 with ⟨rfl, hn⟩ | ⟨g, cap, cur, rfl, hb, hg, h1, h2, h3, h4⟩
  · have : us = [] := List.eq_nil_of_length_eq_zero (by omega)
    subst this
    subst hn
    exact Sli.nil w
  · refine ⟨some ⟨g, 0, none⟩, cap, by rw [hl], by omega, h2, (fun h => by cases h), fun j u hu => ⟨_, rfl, ?_⟩⟩
    rw [Addr.add_lit, Nat.zero_add, cell_of_row w g j cur E (0, 0) hg]
    have hj := (List.getElem?_eq_some_iff.1 hu).1
    rw [← h4, List.getElem?_take, if_pos (by omega)] at hu
    simpa using hu

theorem own_form {w : World} {B : Nat} {E : TypeId} {v : Value} {n : Nat} {us : List Value} (h : w.ownsRow B E 1 v n us) : ∃ ao cap, v = .slice ao n cap ∧ n ≤ cap ∧ cap ≤ maxLen := by
  rcases h.2 with ⟨rfl, rfl⟩ | ⟨g, cap, cur, rfl, hb, hg, h1, h2, h3, h4⟩
  · exact ⟨none, 0, rfl, Nat.le_refl _, Nat.zero_le _⟩
  · exact ⟨_, cap, rfl, h1, h2⟩
/-- the row at its head: its cells, and what lies behind them -/
theorem own_row {w : World} {B : Nat} {E : TypeId} {v : Value} {n : Nat} {us : List Value} (h : w.ownsRow B E 1 v n us) (hn : 0 < n) :
    ∃ g cap sp, v = .slice (some ⟨g, 0, none⟩) n cap ∧ B ≤ g ∧ n ≤ cap ∧ cap ≤ maxLen ∧ w.heap[g]? = some (.cells (us ++ sp).toArray E (0, 0)) := by
  rcases h.2 with ⟨rfl, rfl⟩ | ⟨g, cap, cur, rfl, hb, hg, h1, h2, h3, h4⟩
  · omega
  · refine ⟨g, cap, cur.toList.drop (n * 1), rfl, hb, h1, h2, ?_⟩
    rw [← h4, List.take_append_drop]
    simpa using hg
theorem own_at {w : World} {B g cap : Nat} {E : TypeId} {n : Nat} {us : List Value} (h : w.ownsRow B E 1 (.slice (some ⟨g, 0, none⟩) n cap) n us) :
    B ≤ g ∧ n ≤ cap ∧ cap ≤ maxLen ∧ ∃ sp, w.heap[g]? = some (.cells (us ++ sp).toArray E (0, 0)) := by
  rcases h.2 with ⟨hv, _⟩ | ⟨g', cap', cur, hv, hb, hg, h1, h2, h3, h4⟩
  · cases hv
  · simp only [Value.slice.injEq, Option.some.injEq, Addr.mk.injEq, and_true, true_and] at hv
    obtain ⟨rfl, rfl⟩ := hv
    refine ⟨hb, h1, h2, cur.toList.drop (n * 1), ?_⟩
    rw [← h4, List.take_append_drop]
    simpa using hg
theorem row_cell {w : World} {g : Nat} {E : TypeId} {us sp : List Value} (h : w.heap[g]? = some (.cells (us ++ sp).toArray E (0, 0))) {j : Nat} {u : Value} (hu : us[j]? = some u) :
    w.cell? ⟨g, j, none⟩ = some u ∧ w.frozen? ⟨g, j, none⟩ = false := by
  refine ⟨?_, frozen_of_row w g j _ E h⟩
  have hj := (List.getElem?_eq_some_iff.1 hu).1
  rw [cell_of_row w g j _ E (0, 0) h]
  simp only [List.getElem?_toArray]
  rw [List.getElem?_append_left hj, hu]
theorem row_set {w : World} {g : Nat} {E : TypeId} {us sp : List Value} (h : w.heap[g]? = some (.cells (us ++ sp).toArray E (0, 0))) {j : Nat} (hj : j < us.length) (u : Value) :
    (w.setCell ⟨g, j, none⟩ u).heap[g]? = some (.cells (us.set j u ++ sp).toArray E (0, 0)) := by
  rw [heap_setCell_same w g j _ E u h]
  simp only [List.setIfInBounds_toArray, List.set_append_left _ _ hj]

/-- a new block reads so -/
theorem Sli.lit (w : World) (us : List Value) (E : TypeId) (fr : Nat × Nat) (h : us.length ≤ maxLen) : Sli (w.alloc (.cells us.toArray E fr)) (.slice (some ⟨w.heap.size, 0, none⟩) us.length us.length) us := by
  refine ⟨_, _, rfl, Nat.le_refl _, h, (fun h => by cases h), fun j u hu => ⟨_, rfl, ?_⟩⟩
  rw [Addr.add_lit, Nat.zero_add, World.cell?_alloc_mark]
  simpa using hu

/-- what is cut out of a slice reads as what is cut out of the list -/
theorem Sli.cut {w : World} {ao : Option Addr} {n cap : Nat} {us : List Value} (H : Sli w (.slice ao n cap) us) {l h : Nat} (hl : l ≤ h) (hh : h ≤ us.length) :
    Sli w (.slice (if cap = l then ao else ao.map (·.add (l * 1))) (h - l) (cap - l)) ((us.drop l).take (h - l)) := by
  obtain ⟨ao', cap', hv, h1, h2, h3, h4⟩ := H
  simp only [Value.slice.injEq] at hv
  obtain ⟨rfl, rfl, rfl⟩ := hv
  have hlen : ((us.drop l).take (h - l)).length = h - l := by rw [List.length_take, List.length_drop]; omega
  refine ⟨_, _, by rw [hlen], by omega, by omega, ?_, ?_⟩
  · intro hn
    split at hn
    · omega
    · cases ao with
      | none => have := h3 rfl; omega
      | some a => simp at hn
  · intro j u hu
    have hj := (List.getElem?_eq_some_iff.1 hu).1
    rw [hlen] at hj
    rw [List.getElem?_take, if_pos hj, List.getElem?_drop] at hu
    obtain ⟨ad, ha, hc⟩ := h4 (l + j) u hu
    subst ha
    rw [if_neg (by omega)]
    refine ⟨ad.add (l * 1), rfl, ?_⟩
    obtain ⟨b, off, spot⟩ := ad
    have hs : spot = none := by
      obtain ⟨ad0, ha0, hc0⟩ := h4 0 us[0] (by simp)
      obtain rfl := Option.some.inj ha0
      simpa [Addr.add] using World.cell?_spot hc0
    subst hs
    rw [Addr.add_lit, Addr.add_lit, Nat.mul_one, Nat.add_assoc]
    rw [Addr.add_lit] at hc
    exact hc
/-- the run of a cut: its value, under one name -/
theorem cut_h {P : Program} {T E : TypeId} (ht : P.underlying T = some (.slice E)) (hz : (P.info? E).map (·.size) = some 1) (ao : Option Addr) (n cap h : Nat) (hh : h ≤ cap) :
    ∃ V, (∀ w, (Instr.slice T (.slice ao n cap) none (some (.int .i64 (h : Int))) none).run P w = .ok V w) ∧ ∀ w us, Sli w (.slice ao n cap) us → h ≤ us.length → Sli w V (us.take h) := by
  obtain ⟨i, hi, hs⟩ := Option.map_eq_some_iff.1 hz
  refine ⟨_, fun w => ?_, fun w us H hu => by have := H.cut (l := 0) (Nat.zero_le h) hu; simpa using this⟩
  simp [Instr.slice, run_underlying ht, Instr.sliceBounds, Instr.sliceBound, asIntOf, sizeOf, typeInfo, hi, hh]
theorem cut_l {P : Program} {T E : TypeId} (ht : P.underlying T = some (.slice E)) (hz : (P.info? E).map (·.size) = some 1) (ao : Option Addr) (n cap l : Nat) (hl : l ≤ n) :
    ∃ V, (∀ w, (Instr.slice T (.slice ao n cap) (some (.int .i64 (l : Int))) none none).run P w = .ok V w) ∧ ∀ w us, Sli w (.slice ao n cap) us → us.length = n → Sli w V (us.drop l) := by
  obtain ⟨i, hi, hs⟩ := Option.map_eq_some_iff.1 hz
  refine ⟨_, fun w => ?_, fun w us H hu => by
    have := H.cut (l := l) (h := n) hl (by omega)
    rw [List.take_of_length_le (by rw [List.length_drop]; omega)] at this
    exact this⟩
  simp [Instr.slice, run_underlying ht, Instr.sliceBounds, Instr.sliceBound, asIntOf, sizeOf, typeInfo, hi, hs, hl]
theorem cut_lh {P : Program} {T E : TypeId} (ht : P.underlying T = some (.slice E)) (hz : (P.info? E).map (·.size) = some 1) (ao : Option Addr) (n cap l h : Nat) (hl : l ≤ h) (hh : h ≤ cap) :
    ∃ V, (∀ w, (Instr.slice T (.slice ao n cap) (some (.int .i64 (l : Int))) (some (.int .i64 (h : Int))) none).run P w = .ok V w) ∧ ∀ w us, Sli w (.slice ao n cap) us → h ≤ us.length → Sli w V ((us.drop l).take (h - l)) := by
  obtain ⟨i, hi, hs⟩ := Option.map_eq_some_iff.1 hz
  refine ⟨_, fun w => ?_, fun w us H hu => H.cut hl hu⟩
  simp [Instr.slice, run_underlying ht, Instr.sliceBounds, Instr.sliceBound, asIntOf, sizeOf, typeInfo, hi, hs, hh, hl]

/-- a row reads so -/
theorem Sli.row {w : World} {g cap : Nat} {E : TypeId} {us sp : List Value} (h : w.heap[g]? = some (.cells (us ++ sp).toArray E (0, 0))) (h1 : us.length ≤ cap) (h2 : cap ≤ maxLen) : Sli w (.slice (some ⟨g, 0, none⟩) us.length cap) us := by
  refine ⟨_, cap, rfl, h1, h2, (fun h => by cases h), fun j u hu => ⟨_, rfl, ?_⟩⟩
  rw [Addr.add_lit, Nat.zero_add]
  exact (row_cell h hu).1
theorem by8_one (l : List UInt8) : ∀ u ∈ l.map by8, u.oneCell' = true := by
  intro u hu
  obtain ⟨x, _, rfl⟩ := List.mem_map.1 hu
  rfl
/-- in world w the slice v reads as the bytes l -/
abbrev Bts (w : World) (v : Value) (l : List UInt8) : Prop := Sli w v (l.map by8)
theorem Bts.at {w : World} {ao : Option Addr} {n cap : Nat} {l : List UInt8} (h : Bts w (.slice ao n cap) l) (hl : 0 < l.length) :
    ∃ b off, ao = some ⟨b, off, none⟩ ∧ b < w.heap.size ∧ ∀ i, i < l.length → w.cell? ⟨b, off + i, none⟩ = some (by8 (l.getD i 0)) := by
  obtain ⟨b, off, h1, h2, h3⟩ := Sli.at h (by simpa using hl)
  refine ⟨b, off, h1, h2, fun i hi => h3 i _ ?_⟩
  simp [hi]
theorem Bts.form {w : World} {v : Value} {l : List UInt8} (h : Bts w v l) : ∃ ao cap, v = .slice ao l.length cap ∧ l.length ≤ cap ∧ cap ≤ maxLen ∧ (ao = none → cap = 0) := by
  obtain ⟨ao, cap, hv, h1, h2, h3, _⟩ := h
  simp only [List.length_map] at hv h1
  exact ⟨ao, cap, hv, h1, h2, h3⟩

theorem Bts.take {w : World} {v : Value} {l : List UInt8} {k : Nat} (h : Sli w v ((l.map by8).take k)) : Bts w v (l.take k) := by
  unfold Bts; rw [List.map_take]; exact h
theorem Bts.drop {w : World} {v : Value} {l : List UInt8} {k : Nat} (h : Sli w v ((l.map by8).drop k)) : Bts w v (l.drop k) := by
  unfold Bts; rw [List.map_drop]; exact h
theorem Bts.mid {w : World} {v : Value} {l : List UInt8} {k m : Nat} (h : Sli w v (((l.map by8).drop k).take m)) : Bts w v ((l.drop k).take m) := by
  unfold Bts; rw [List.map_take, List.map_drop]; exact h
/-- a slice of numbers that came in, as bytes -/
theorem bts_of_ints {w : World} {a : Option Addr} {len cap : Nat} {zs : List Int}
    (h : (a = none ∧ len = 0 ∧ cap = 0 ∧ zs = []) ∨ ∃ x, a = some x ∧ len ≤ cap ∧ cap ≤ maxLen ∧ zs.length = cap ∧ (∀ i, i < zs.length → w.cell? (x.add i) = some (.int .u8 (zs.getD i 0))) ∧ ∀ n ∈ zs, (Lit.int .u8 n).wf = true) :
    ∃ l : List UInt8, l.length = len ∧ Bts w (.slice a len cap) l := by
  rcases h with ⟨rfl, rfl, rfl, rfl⟩ | ⟨x, rfl, h1, h2, h3, h4, h5⟩
  · exact ⟨[], rfl, Sli.nil w⟩
  · have hlen : ((zs.take len).map fun n => UInt8.ofNat n.toNat).length = len := by simp; omega
    refine ⟨(zs.take len).map fun n => UInt8.ofNat n.toNat, hlen, some x, cap, by rw [List.length_map, hlen], by rw [List.length_map, hlen]; exact h1, h2, (fun h => by cases h), fun j u hu => ⟨x, rfl, ?_⟩⟩
    have hj := (List.getElem?_eq_some_iff.1 hu).1
    rw [List.length_map, hlen] at hj
    rw [h4 j (by omega)]
    have hz : zs[j]? = some zs[j] := List.getElem?_eq_getElem (by omega)
    rw [List.map_map, List.getElem?_map, List.getElem?_take, if_pos hj, hz] at hu
    simp only [Option.map_some, Option.some.injEq, Function.comp_apply] at hu
    rw [← hu, List.getD_eq_getElem?_getD, hz]
    have hw := h5 zs[j] (List.getElem_mem (by omega))
    simp [Lit.wf, IntKind.min, IntKind.max, IntKind.signed, IntKind.bits] at hw
    simp
    omega
/-- make: so many zero values, in a new block -/
theorem make_run {P : Program} {T E : TypeId} {z : Value} {bytes : Nat} (ht : P.underlying T = some (.slice E)) (hinfo : (P.info? E).map (fun i => (i.zero, i.size, i.bytes)) = some (some z, 1, bytes)) (hz1 : z.cells = #[z])
    (n : Nat) (hb : bytes * n ≤ 281474976710656) (hn : n ≤ maxLen) (w : World) :
    (Instr.makeSlice T (.int .i64 (n : Int)) (.int .i64 (n : Int))).run P w = .ok (.slice (some ⟨w.heap.size, 0, none⟩) n n) (w.alloc (.cells (Array.replicate n z) E)) := by
  obtain ⟨i, hi, hz, hsz, hby⟩ := info_parts hinfo
  have h63' : (n : Int) ≤ 9223372036854775807 := by
    have h := hn
    simp [maxLen] at h
    omega
  have hb' : (i.bytes : Int) * (n : Int) ≤ 281474976710656 := by
    have h : ((i.bytes * n : Nat) : Int) ≤ 281474976710656 := by rw [hby]; omega
    rwa [Int.natCast_mul] at h
  have hr := run_make (P := P) w T E i z ht hi hz .i64 .i64 n n (by omega) (Int.le_refl _) hb' h63'
  simp only [Int.toNat_natCast, hsz, Nat.mul_one] at hr
  have e : madeCells z.cells n = Array.replicate n z := by
    rw [hz1]
    apply Array.toList_inj.1
    rw [toList_madeCells_one, Array.toList_replicate]
  rw [e] at hr
  exact hr
theorem zeros_lit (w : World) (n : Nat) (E : TypeId) (hn : n ≤ maxLen) : Bts (w.alloc (.cells (Array.replicate n (.int .u8 0)) E)) (.slice (some ⟨w.heap.size, 0, none⟩) n n) (List.replicate n 0) := by
  have := Sli.lit w (List.replicate n (.int .u8 0)) E (0, 0) (by simpa using hn)
  unfold Bts
  rw [List.map_replicate]
  rw [List.length_replicate, List.toArray_replicate] at this
  exact this
/-- APPEND to a row of the call's own, whatever is appended (nil too). -/
theorem wpList_app {P : Program} (w : World) {ops : Array Oper} {rest : List Oper} {o : Oper} {a : Act} {Q : Exit → Act → World → Prop} (hgd : o.guard = none) (s x : Operand) (t : TypeId)
    (ho : o.op = .call { callee := .builtin .append, args := #[s, x], argTypes := #[t, t] })
    (B : Nat) (e : TypeId) (z : Value) (bytes : Nat) (ht : P.underlying t = some (.slice e)) (hinfo : (P.info? e).map (fun i => (i.zero, i.size, i.bytes)) = some (some z, 1, bytes)) (hby : bytes ≤ 128)
    (hzs : z.cells.size = 1) {v : Value} {n : Nat} {xs : List Value} (hown : w.ownsRow B e 1 v n xs) (hs : a.eval s = v)
    (ao : Option Addr) (m c : Nat) (news : List Value) (hx : a.eval x = .slice ao m c) (hc0 : ao = none → c = 0) (hm : news.length = m) (hl : Lie w ao news) (h1 : ∀ u ∈ news, u.oneCell' = true)
    (hsmall : n + m ≤ 1099511627776) (hbase : B ≤ w.heap.size)
    (hK : ∀ v' w', w'.ownsRow B e 1 v' (n + m) (xs ++ news) → w.grownBy w' v.ownBlock → Below B w w' → wpList P ops Q rest (a.put o.dst v') w') : wpList P ops Q (o :: rest) a w := by
  obtain ⟨i, hi, hz, hsz, hbytes⟩ := info_parts hinfo
  have hblk : ∀ k, v.ownBlock = some k → B ≤ k := fun k hk => (hown.lt k hk).1
  cases ao with
  | some ad =>
    refine wpList_append_own w hgd s x t ho B e i z 1 bytes ht hi hz hsz hbytes hzs (by decide) v n xs hs hown ad m c news hx (by omega) ?_ h1 (by unfold maxLen; omega) ?_ hbase ?_
    · intro j u hu
      obtain ⟨ad', ha, hc⟩ := hl j u hu
      obtain rfl := Option.some.inj ha
      exact hc
    · exact Nat.le_trans (Nat.mul_le_mul hsmall hby) (by decide)
    · intro v' w' h2 h3 _
      exact hK v' w' h2 h3 ((Below.refl _ _).grown h3 hbase hblk)
  | none =>
    have hn : news = [] := by
      cases news with
      | nil => rfl
      | cons u us => obtain ⟨ad, ha, _⟩ := hl 0 u rfl; cases ha
    subst hn
    simp only [List.length_nil] at hm
    subst hm
    obtain rfl := hc0 rfl
    have hrun := run_append_owned_none (P := P) (w := w) B t o.type e i 1 ht hi v n xs hown
    refine wpList_plain hgd fun K hK' => ?_
    unfold Oper.wp
    simp [execOp, ho, resolve, invoke, builtin, hs, hx, hrun, Result.andThen]
    exact hK' _ _ (hK v w (by simpa using hown) (World.grownBy.refl _ _) (Below.refl _ _))
/-- APPEND of one value to a row of the call's own: the value lies in a block of its own. -/
theorem wpList_app1 {P : Program} (w : World) {ops : Array Oper} {rest : List Oper} {o : Oper} {a : Act} {Q : Exit → Act → World → Prop} (hgd : o.guard = none) (s x : Operand) (t : TypeId)
    (ho : o.op = .call { callee := .builtin .append, args := #[s, x], argTypes := #[t, t] })
    (B : Nat) (e : TypeId) (z : Value) (bytes : Nat) (ht : P.underlying t = some (.slice e)) (hinfo : (P.info? e).map (fun i => (i.zero, i.size, i.bytes)) = some (some z, 1, bytes)) (hby : bytes ≤ 128)
    (hzs : z.cells.size = 1) {v : Value} {n : Nat} {xs : List Value} (hown : w.ownsRow B e 1 v n xs) (u : Value) (hs : a.eval s = v) (hx : a.eval x = .slice (some ⟨w.heap.size, 0, none⟩) 1 1) (h1 : u.oneCell' = true)
    (hsmall : n + 1 ≤ 1099511627776) (hbase : B ≤ w.heap.size)
    (hK : ∀ v' w', w'.ownsRow B e 1 v' (n + 1) (xs ++ [u]) → Below B w w' → wpList P ops Q rest (a.put o.dst v') w') : wpList P ops Q (o :: rest) a (w.alloc (.cells #[u] e)) := by
  refine wpList_app _ hgd s x t ho B e z bytes ht hinfo hby hzs (hown.alloc _) hs _ 1 1 [u] hx (by intro h; cases h) rfl ?_ ?_ hsmall (by simp; omega) ?_
  · intro j u' hj
    match j, hj with
    | 0, hj =>
      simp at hj
      subst hj
      refine ⟨_, rfl, ?_⟩
      rw [Addr.add_lit, World.cell?_alloc_at _ _ _ _ rfl]
      rfl
  · intro u' hu'; simp at hu'; subst hu'; exact h1
  · intro v' w' h2 _ h4
    exact hK v' w' h2 (((Below.refl _ _).alloc hbase _).trans h4)
end Go.Proofs.Ytlcnjinabfbglaa
namespace Go.Proofs.Ytlcnjinabfbglaa
open Go.RowKit

theorem flat_get {α : Type} (cells : α → List Value) (sz : Nat) (hs : ∀ a, (cells a).length = sz) : ∀ (l : List α) (i : Nat) (a : α) (j : Nat) (u : Value), l[i]? = some a → (cells a)[j]? = some u → (l.flatMap cells)[i * sz + j]? = some u := by
  intro l
  induction l with
  | nil => intro i a j u h; simp at h
  | cons x l ih =>
    intro i a j u h hu
    rw [List.flatMap_cons]
    cases i with
    | zero =>
      simp at h
      subst h
      have := (List.getElem?_eq_some_iff.1 hu).1
      rw [Nat.zero_mul, Nat.zero_add, List.getElem?_append_left this]
      exact hu
    | succ i =>
      simp at h
      rw [List.getElem?_append_right (by rw [hs]; have : (i + 1) * sz = i * sz + sz := by rw [Nat.add_mul, Nat.one_mul]
                                         omega), hs]
      have e : (i + 1) * sz + j - sz = i * sz + j := by rw [Nat.add_mul, Nat.one_mul]; omega
      rw [e]
      exact ih i a j u h hu
theorem flat_len {α : Type} (cells : α → List Value) (sz : Nat) (hs : ∀ a, (cells a).length = sz) (l : List α) : (l.flatMap cells).length = l.length * sz := by
  induction l with
  | nil => simp
  | cons x l ih => rw [List.flatMap_cons, List.length_append, ih, hs, List.length_cons, Nat.add_mul, Nat.one_mul, Nat.add_comm]
/-- in world w the slice v reads as the structs l -/
def Row {α : Type} (cells : α → List Value) (w : World) (v : Value) (l : List α) : Prop :=
  ∃ ao cap, v = .slice ao l.length cap ∧ l.length ≤ cap ∧ cap ≤ maxLen ∧ (ao = none → cap = 0) ∧ Lie w ao (l.flatMap cells)
theorem Row.keep {α : Type} {cells : α → List Value} {w w' : World} {v : Value} {l : List α} (h : Row cells w v l) (hb : Below w.heap.size w w') : Row cells w' v l := by
  obtain ⟨ao, cap, hv, h1, h2, h3, h4⟩ := h
  exact ⟨ao, cap, hv, h1, h2, h3, h4.keep hb⟩
theorem Row.drew {α : Type} {cells : α → List Value} {w : World} {v : Value} {l : List α} (h : Row cells w v l) : Row cells w.drew v l := h
theorem Row.nil {α : Type} (cells : α → List Value) (w : World) : Row cells w (.slice none 0 0) [] := ⟨none, 0, rfl, Nat.le_refl _, Nat.zero_le _, fun _ => rfl, by intro j u h; simp at h⟩
theorem Row.form {α : Type} {cells : α → List Value} {w : World} {v : Value} {l : List α} (h : Row cells w v l) : ∃ ao cap, v = .slice ao l.length cap ∧ l.length ≤ cap ∧ cap ≤ maxLen ∧ (ao = none → cap = 0) := by
  obtain ⟨ao, cap, hv, h1, h2, h3, -⟩ := h
  exact ⟨ao, cap, hv, h1, h2, h3⟩
theorem Row.at {α : Type} {cells : α → List Value} {sz : Nat} (hs : ∀ a, (cells a).length = sz) (hsz : 0 < sz) {w : World} {ao : Option Addr} {n cap : Nat} {l : List α} (h : Row cells w (.slice ao n cap) l) (hl : 0 < l.length) :
    ∃ b off, ao = some ⟨b, off, none⟩ ∧ b < w.heap.size ∧ ∀ i a, l[i]? = some a → ∀ j u, (cells a)[j]? = some u → w.cell? ⟨b, off + i * sz + j, none⟩ = some u := by
  obtain ⟨ao', cap', hv, h1, h2, h3, h4⟩ := h
  simp only [Value.slice.injEq] at hv
  obtain ⟨rfl, -, -⟩ := hv
  have hfl := flat_len cells sz hs l
  have hpos : 0 < (l.flatMap cells).length := by rw [hfl]; exact Nat.mul_pos hl hsz
  obtain ⟨⟨b, off, spot⟩, rfl, hc⟩ := h4 0 (l.flatMap cells)[0] (by simp)
  have hsp : spot = none := by simpa [Addr.add] using World.cell?_spot hc
  subst hsp
  refine ⟨b, off, rfl, World.block_lt_of_cell? w _ hc, fun i a ha j u hu => ?_⟩
  obtain ⟨ad, had, hc'⟩ := h4 _ u (flat_get cells sz hs l i a j u ha hu)
  obtain rfl := Option.some.inj had
  rw [Addr.add_lit, ← Nat.add_assoc] at hc'
  exact hc'
/-- a row of the call's own reads so -/
theorem Row.own {α : Type} {cells : α → List Value} {sz : Nat} (hs : ∀ a, (cells a).length = sz) {w : World} {B : Nat} {E : TypeId} {v : Value} {l : List α} (h : w.ownsRow B E sz v l.length (l.flatMap cells)) (_hsz : 0 < sz) : Row cells w v l := by
  rcases h.2 with ⟨rfl, hn⟩ | ⟨g, cap, cur, rfl, hb, hg, h1, h2, h3, h4⟩
  · have : l = [] := List.eq_nil_of_length_eq_zero hn
    subst this
    exact Row.nil cells w
  · refine ⟨some ⟨g, 0, none⟩, cap, rfl, h1, h2, (fun h => by cases h), fun j u hu => ⟨_, rfl, ?_⟩⟩
    rw [Addr.add_lit, Nat.zero_add, cell_of_row w g j cur E (0, 0) hg]
    have hj := (List.getElem?_eq_some_iff.1 hu).1
    rw [flat_len cells sz hs] at hj
    rw [← h4, List.getElem?_take, if_pos hj] at hu
    simpa using hu
theorem ownN_form {w : World} {B : Nat} {E : TypeId} {sz : Nat} {v : Value} {n : Nat} {us : List Value} (h : w.ownsRow B E sz v n us) : ∃ ao cap, v = .slice ao n cap ∧ n ≤ cap ∧ cap ≤ maxLen := by
  rcases h.2 with ⟨rfl, rfl⟩ | ⟨g, cap, cur, rfl, hb, hg, h1, h2, h3, h4⟩
  · exact ⟨none, 0, rfl, Nat.le_refl _, Nat.zero_le _⟩
  · exact ⟨_, cap, rfl, h1, h2⟩
theorem ownN_keepAt {w w' : World} {B : Nat} {E : TypeId} {sz : Nat} {v : Value} {n : Nat} {xs : List Value} (h : w.ownsRow B E sz v n xs) (hk : ∀ k, v.ownBlock = some k → w'.heap[k]? = w.heap[k]?) : w'.ownsRow B E sz v n xs := by
  refine ⟨h.1, ?_⟩
  rcases h.2 with h0 | ⟨g, cap, cur, rfl, hb, hg, h1⟩
  · exact .inl h0
  · exact .inr ⟨g, cap, cur, rfl, hb, (hk g rfl).trans hg, h1⟩
/-- APPEND of one struct to a row of the call's own: the struct lies in a block of its own. -/
theorem wpList_appS {P : Program} (w : World) {ops : Array Oper} {rest : List Oper} {o : Oper} {a : Act} {Q : Exit → Act → World → Prop} (hgd : o.guard = none) (s x : Operand) (t : TypeId)
    (ho : o.op = .call { callee := .builtin .append, args := #[s, x], argTypes := #[t, t] })
    (B : Nat) (e : TypeId) (z : Value) (sz bytes : Nat) (ht : P.underlying t = some (.slice e)) (hinfo : (P.info? e).map (fun i => (i.zero, i.size, i.bytes)) = some (some z, sz, bytes)) (hby : bytes ≤ 128)
    (hzs : z.cells.size = sz) (hsz : 0 < sz) {v : Value} {n : Nat} {xs : List Value} (hown : w.ownsRow B e sz v n xs) (us : List Value) (hus : us.length = sz) (hs : a.eval s = v) (hx : a.eval x = .slice (some ⟨w.heap.size, 0, none⟩) 1 1) (h1 : ∀ u ∈ us, u.oneCell' = true)
    (hsmall : n + 1 ≤ 1099511627776) (hbase : B ≤ w.heap.size)
    (hK : ∀ v' w', w'.ownsRow B e sz v' (n + 1) (xs ++ us) → Below B w w' → wpList P ops Q rest (a.put o.dst v') w') : wpList P ops Q (o :: rest) a (w.alloc (.cells us.toArray e)) := by
  obtain ⟨i, hi, hz, hszz, hbytes⟩ := info_parts hinfo
  have hblk : ∀ k, v.ownBlock = some k → B ≤ k := fun k hk => (hown.lt k hk).1
  refine wpList_append_own (w.alloc (.cells us.toArray e)) hgd s x t ho B e i z sz bytes ht hi hz hszz hbytes hzs hsz v n xs hs (hown.alloc _) ⟨w.heap.size, 0, none⟩ 1 1 us hx (by rw [hus, Nat.one_mul]) ?_ h1 (by unfold maxLen; omega) ?_ (by simp; omega) ?_
  · intro j u hj
    rw [Addr.add_lit, World.cell?_alloc_at _ _ _ _ rfl]
    simpa using hj
  · exact Nat.le_trans (Nat.mul_le_mul hsmall hby) (by decide)
  · intro v' w' h2 h3 _
    exact hK v' w' h2 (((Below.refl _ _).alloc hbase _).grown h3 (by simp; omega) hblk)
end Go.Proofs.Ytlcnjinabfbglaa
namespace Go.Proofs.Ytlcnjinabfbglaa
open Go.RowKit

theorem flat_set {α : Type} (cells : α → List Value) (sz : Nat) (hs : ∀ a, (cells a).length = sz) : ∀ (l : List α) (k : Nat) (a a' : α) (j : Nat) (u : Value), l[k]? = some a → j < sz → cells a' = (cells a).set j u → (l.flatMap cells).set (k * sz + j) u = (l.set k a').flatMap cells := by
  intro l
  induction l with
  | nil => intro k a a' j u h; simp at h
  | cons x l ih =>
    intro k a a' j u h hj hc
    cases k with
    | zero =>
      simp at h
      subst h
      rw [Nat.zero_mul, Nat.zero_add, List.flatMap_cons, List.set_append_left _ _ (by rw [hs]; exact hj), List.set_cons_zero, List.flatMap_cons, hc]
    | succ k =>
      simp at h
      rw [List.flatMap_cons, List.set_append_right _ _ (by rw [hs, Nat.add_mul, Nat.one_mul]; omega), List.set_cons_succ, List.flatMap_cons, hs]
      have e : (k + 1) * sz + j - sz = k * sz + j := by rw [Nat.add_mul, Nat.one_mul]; omega
      rw [e, ih k a a' j u h hj hc]
/-- the row's head -/
theorem ownN_row {w : World} {B : Nat} {E : TypeId} {sz : Nat} {v : Value} {n : Nat} {us : List Value} (h : w.ownsRow B E sz v n us) (hn : 0 < n) : ∃ g cap, v = .slice (some ⟨g, 0, none⟩) n cap ∧ B ≤ g ∧ g < w.heap.size := by
  rcases h.2 with ⟨rfl, rfl⟩ | ⟨g, cap, cur, rfl, hb, hg, h1⟩
  · omega
  · exact ⟨g, cap, rfl, hb, (Array.getElem?_eq_some_iff.1 hg).1⟩
theorem ownN_cell {w : World} {B : Nat} {E : TypeId} {sz : Nat} {g n cap : Nat} {us : List Value} (h : w.ownsRow B E sz (.slice (some ⟨g, 0, none⟩) n cap) n us) {j : Nat} {u : Value} (hj : us[j]? = some u) : w.cell? ⟨g, j, none⟩ = some u ∧ w.frozen? ⟨g, j, none⟩ = false := by
  have hl := h.1
  rcases h.2 with ⟨hv, _⟩ | ⟨g', cap', cur, hv, hb, hg, h1, h2, h3, h4⟩
  · cases hv
  · simp only [Value.slice.injEq, Option.some.injEq, Addr.mk.injEq, and_true, true_and] at hv
    obtain ⟨rfl, rfl⟩ := hv
    refine ⟨?_, frozen_of_row w g j _ E hg⟩
    rw [cell_of_row w g j cur E (0, 0) hg]
    have hjl := (List.getElem?_eq_some_iff.1 hj).1
    rw [← h4, List.getElem?_take, if_pos (by omega)] at hj
    simpa using hj
theorem ownN_set {w : World} {B : Nat} {E : TypeId} {sz : Nat} {g n cap : Nat} {us : List Value} (h : w.ownsRow B E sz (.slice (some ⟨g, 0, none⟩) n cap) n us) (j : Nat) (u : Value) : (w.setCell ⟨g, j, none⟩ u).ownsRow B E sz (.slice (some ⟨g, 0, none⟩) n cap) n (us.set j u) := by
  refine ⟨by rw [List.length_set]; exact h.1, ?_⟩
  rcases h.2 with ⟨hv, _⟩ | ⟨g', cap', cur, hv, hb, hg, h1, h2, h3, h4⟩
  · cases hv
  · simp only [Value.slice.injEq, Option.some.injEq, Addr.mk.injEq, and_true, true_and] at hv
    obtain ⟨rfl, rfl⟩ := hv
    refine .inr ⟨g, cap, cur.setIfInBounds j u, rfl, hb, heap_setCell_same w g j cur E u hg, h1, h2, by simpa using h3, ?_⟩
    rw [Array.toList_setIfInBounds, List.take_set, h4]
end Go.Proofs.Ytlcnjinabfbglaa
