import Derived.Test.YtaepkmjlkenenaaL2
namespace Go.Proofs.Ytaepkmjlkenenaa
open Go.RowKit

set_option maxRecDepth 100000 in
theorem judge_no (l : Lt.Lot) (vd vc : Value) (w : World) (hD : Ints w vd l.due) (hC : Ints w vc l.come) (hm : Lt.may l = false) :
    Calls Try.prog 11 #[lotV l vd vc] w fun e w' => e = .returned (.tuple #[.slice none 0 0, .slice none 0 0, .int .i64 2]) ∧ Below w.heap.size w w' := by
  have hb0 : Below w.heap.size w (w.alloc (.cells #[.int .i64 l.pol, .int .i64 l.grace, .int .i64 l.now, vd, vc, .int .i64 l.room] 24)) := (Below.refl _ _).alloc (Nat.le_refl _) _
  have hM := may_any l vd vc _ (hD.keep hb0) (hC.keep hb0)
  rw [hm] at hM
  obtain ⟨ao, ca, rfl, -, -, -⟩ := hD.form
  obtain ⟨bo, cb, rfl, -, -, -⟩ := hC.form
  unfold lotV at *
  go_enter Try.func11, Try.ntmps11
  go_wp2_with (go_at_call 10; refine hM.mono ?_; rintro e w1 ⟨rfl, hb1⟩)
  go_ret3
  exact ⟨rfl, Below.call hb0 hb1⟩

/-- what Judge says is late -/
theorem late_any (l : Lt.Lot) (t : Int) (b : Nat) (w : World) (h1 : w.cell? ⟨b, 1, none⟩ = some (.int .i64 l.grace)) (h2 : w.cell? ⟨b, 2, none⟩ = some (.int .i64 l.now)) (ht : 0 ≤ t) (htn : t ≤ l.now) (hn : l.now < 13569465600) :
    Calls Try.prog 31 #[.int .i64 t, .pointer (some ⟨b, 0, none⟩)] w fun e w' => e = .returned (.bool (Lt.late l t)) ∧ w = w' := by
  unfold Lt.late
  go_enter Try.func31, Try.ntmps31
  go_wp2_with fail
  go_ret
  exact ⟨rfl, rfl⟩
theorem ontime_any (l : Lt.Lot) (t : Int) (b c : Nat) (w : World) (h1 : w.cell? ⟨b, 1, none⟩ = some (.int .i64 l.grace)) (h2 : w.cell? ⟨b, 2, none⟩ = some (.int .i64 l.now)) (hc : w.cell? ⟨c, 0, none⟩ = some (.func (.func 31) #[] #[.pointer (some ⟨b, 0, none⟩)])) (ht : 0 ≤ t) (htn : t ≤ l.now) (hn : l.now < 13569465600) :
    Calls Try.prog 33 #[.int .i64 t, .pointer (some ⟨c, 0, none⟩)] w fun e w' => e = .returned (.bool (!Lt.late l t)) ∧ w = w' := by
  have hL := late_any l t b w h1 h2 ht htn hn
  go_enter Try.func33, Try.ntmps33
  go_wp2_with (go_at_call 31; refine hL.mono ?_; rintro e w1 ⟨rfl, rfl⟩)
  go_ret
  exact ⟨rfl, rfl⟩
/-- the index that slices.IndexFunc tells -/
def idx (l : Lt.Lot) (c : List Int) : Int := if Lt.ontime l c < c.length then (Lt.ontime l c : Int) else -1
set_option maxRecDepth 100000 in
theorem index_any (l : Lt.Lot) (v : Value) (come : List Int) (b c : Nat) (w : World) (hI : Ints w v come) (h1 : w.cell? ⟨b, 1, none⟩ = some (.int .i64 l.grace)) (h2 : w.cell? ⟨b, 2, none⟩ = some (.int .i64 l.now)) (hc : w.cell? ⟨c, 0, none⟩ = some (.func (.func 31) #[] #[.pointer (some ⟨b, 0, none⟩)])) (ht : ∀ t ∈ come, 0 ≤ t ∧ t ≤ l.now) (hn : l.now < 13569465600) (hl : come.length ≤ 1000000) :
    Calls Try.prog 32 #[v, .func (.func 33) #[] #[.pointer (some ⟨c, 0, none⟩)]] w fun e w' => e = .returned (.int .i64 (idx l come)) ∧ w = w' := by
  obtain ⟨ao, cap, rfl, k1, k2, k3⟩ := hI.form
  go_enter Try.func32, Try.ntmps32
  go_wp2_with fail
  go_loop [8] (fun i => ∃ k : Nat, k ≤ come.length ∧ i = .int .i64 k ∧ Lt.ontime l come = k + Lt.ontime l (come.drop k)) (fun i => come.length - (intOf i).toNat)
  case atStart => exact ⟨0, Nat.zero_le _, rfl, by simp⟩
  case round =>
    obtain ⟨k, hk, rfl, hr⟩ := hrel
    by_cases hlt : k < come.length
    · obtain ⟨a, off, rfl, hbl, hca⟩ := Ints.at hI (by omega)
      have hck := hca k hlt
      have hdd : come.drop k = come.getD k 0 :: come.drop (k + 1) := by rw [List.drop_eq_getElem_cons hlt]; simp [hlt]
      have hmem : come.getD k 0 ∈ come := by rw [List.getD_eq_getElem?_getD, List.getElem?_eq_getElem hlt]; exact List.getElem_mem hlt
      have htk := ht _ hmem
      obtain ⟨x, hx⟩ : ∃ x, x = come.getD k 0 := ⟨_, rfl⟩
      rw [← hx] at hck hdd htk
      rw [hdd, Lt.ontime] at hr
      have hO := ontime_any l x b c w h1 h2 hc htk.1 htk.2 hn
      clear hca hx hdd hmem
      cases hl : Lt.late l x with
      | true =>
        rw [hl, if_pos rfl] at hr
        rw [hl] at hO
        have HR := Lib.hid hr
        clear hr
        go_wp2_with (go_at_call 33; refine hO.mono ?_; rintro e w1 ⟨rfl, rfl⟩)
        exact ⟨⟨k + 1, by omega, by go_num, by rw [HR.out]; omega⟩, by simp [intOf]; omega⟩
      | false =>
        rw [hl, if_neg (by decide)] at hr
        rw [hl] at hO
        have HR : RowKit.Hid (idx l come = (k : Int)) := by
          show _ = _
          unfold idx; rw [hr, if_pos (by omega)]; simp
        clear hr
        go_wp2_with (go_at_call 33; refine hO.mono ?_; rintro e w1 ⟨rfl, rfl⟩)
        go_ret
        exact ⟨ret_int HR.out.symm, rfl⟩
    · have hkl : k = come.length := by omega
      have HR : RowKit.Hid (idx l come = -1) := by
        show _ = _
        unfold idx; rw [hr, if_neg (by omega)]
      clear hr
      go_wp2_with fail
      go_ret
      exact ⟨ret_int HR.out.symm, rfl⟩
end Go.Proofs.Ytaepkmjlkenenaa
